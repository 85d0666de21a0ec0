/- The library's sort of a short slice (elements of kind .i64): insertion. -/
import Derived.Test.YtekiccbhjnfciaaProg
import Derived.Test.YtekiccbhjnfciaaBase2
import Derived.Sort.WalkA
namespace Go.Proofs.Ytekiccbhjnfciaa.insI
open Go.RowKit Go.Sort

/-- v's elements are d. -/
def Row (w : World) (g o cap : Nat) (d : Array Int) : Prop := OwnS w 3 1 (.slice (some ⟨g, o, none⟩) d.size cap) d.size (d.toList.map (Value.int .i64))
section
variable {w : World} {g o cap : Nat} {d : Array Int}
theorem Row.cell (h : Row w g o cap d) {i : Nat} (hi : i < d.size) : w.cell? ⟨g, o + i, none⟩ = some (.int .i64 d[i]!) := by
  have := OwnS.cells h rfl i (.int .i64 d[i]!) (by rw [List.getElem?_map, Array.getElem?_toList, getElem!_pos d i hi]; simp [hi])
  rwa [add_at] at this
theorem Row.frozen (h : Row w g o cap d) (i : Nat) : w.frozen? ⟨g, i, none⟩ = false := OwnS.frozen h i
theorem Row.set_ (h : Row w g o cap d) (i : Nat) (x : Int) : Row (w.setCell ⟨g, o + i, none⟩ (.int .i64 x)) g o cap (d.setIfInBounds i x) := by
  have := OwnS.store h i (.int .i64 x)
  unfold Row
  have e : (d.toList.map (Value.int .i64)).set i (.int .i64 x) = ((d.setIfInBounds i x).toList.map (Value.int .i64)) := by
    rw [Array.toList_setIfInBounds, List.map_set]
  rw [e] at this
  simpa using this
theorem Row.drew (h : Row w g o cap d) : Row w.drew g o cap d := h
theorem Row.drewN (h : Row w g o cap d) (n : Nat) : Row (w.drewN n) g o cap d := h
theorem Row.swap (h : Row w g o cap d) {i j : Nat} : Row ((w.setCell ⟨g, o + i, none⟩ (.int .i64 d[j]!)).setCell ⟨g, o + j, none⟩ (.int .i64 d[i]!)) g o cap (swp d i j) := (h.set_ i _).set_ j _
end

def ltI (x y : Int) : Bool := decide (x < y)
theorem swoI : SWO ltI := swo_ltInt

theorem nan (x : Int) (w : World) : Calls Try.prog 143 #[.int .i64 x] w fun e w' => e = .returned (.bool false) ∧ w' = w := by
  go_enter Try.func143, Try.ntmps143
  go_wp2
  go_ret
  simp

theorem less (x y : Int) (w : World) : Calls Try.prog 129 #[.int .i64 x, .int .i64 y] w fun e w' => e = .returned (.bool (ltI x y)) ∧ w' = w := by
  go_enter Try.func129, Try.ntmps129
  go_wp2_with (go_at_call 143; refine (nan _ _).mono ?_; rintro e w' ⟨rfl, rfl⟩)
  go_ret
  simp [ltI]

set_option maxHeartbeats 4000000 in
set_option maxRecDepth 100000 in
theorem insertion (w : World) (g o cap a b : Nat) (d : Array Int) (hR : Row w g o cap d) (hab : a ≤ b) (hb : b ≤ d.size) (hsz : d.size < 4611686018427387904) :
    Calls Try.prog 123 #[.slice (some ⟨g, o, none⟩) d.size cap, .int .i64 a, .int .i64 b] w fun e w' => e = .returned (.tuple #[]) ∧ Row w' g o cap (insertionSort ltI d a b) ∧ Fr (· = g) w w' ∧ w'.heap.size = w.heap.size := by
  go_enter Try.func123, Try.ntmps123
  go_wp2
  go_loopw [6] (fun vi wr => ∃ (i : Nat) (dk : Array Int), vi = .int .i64 i ∧ a < i ∧ i ≤ b + 1 ∧ dk.size = d.size ∧ Row wr g o cap dk ∧ Fr (· = g) w wr ∧ wr.heap.size = w.heap.size ∧
      insOuter ltI a b i dk = insOuter ltI a b (a + 1) d) (fun vi _ => b + 1 - (intOf vi).toNat)
  case atStart => exact ⟨a + 1, d, by go_num, by omega, by omega, rfl, hR, Fr.refl _ _, rfl, rfl⟩
  case round =>
    clear hR
    obtain ⟨i, dk, rfl, hai, hib, hsk, hR, hF, hS, hO⟩ := hrel
    have HO : Hid (insOuter ltI a b i dk = insOuter ltI a b (a + 1) d) := hO
    clear hO
    go_wp2
    · -- i < b
      obtain ⟨wo, hwo⟩ : ∃ wo : World, wo = wr := ⟨_, rfl⟩
      go_loopw [7] (fun vj wr2 => ∃ (j : Nat) (dj : Array Int), vj = .int .i64 j ∧ a ≤ j ∧ j ≤ i ∧ dj.size = d.size ∧ Row wr2 g o cap dj ∧ Fr (· = g) w wr2 ∧ wr2.heap.size = w.heap.size ∧
          insInner ltI a j dj = insInner ltI a i dk) (fun vj _ => (intOf vj).toNat)
      case atStart => exact ⟨i, dk, rfl, by omega, Nat.le_refl _, hsk, hR, hF, hS, rfl⟩
      case round =>
        clear hR hF hS hwo wo
        obtain ⟨j, dj, rfl, haj, hji, hsj, hR, hF, hS, hI⟩ := hrel
        have hlt : i < b := by assumption
        obtain ⟨G, hG⟩ : ∃ G : Nat → Int, ∀ t, G t = dj[t]! := ⟨fun t => dj[t]!, fun _ => rfl⟩
        have hcw : ∀ t, t < d.size → wr.cell? ⟨g, o + t, none⟩ = some (.int .i64 (G t)) := fun t ht => by rw [hG]; exact hR.cell (by omega)
        have hfw : ∀ t, t < d.size → wr.frozen? ⟨g, o + t, none⟩ = false := fun t ht => hR.frozen _
        have HG : Hid (∀ t, G t = dj[t]!) := hG
        have HI : Hid (insInner ltI a j dj = insInner ltI a i dk) := hI
        have HR : Hid (Row wr g o cap dj) := hR
        have HF : Hid (Fr (· = g) w wr) := hF
        have HS : Hid (wr.heap.size = w.heap.size) := hS
        clear hG hI hR hF hS
        have out : (j ≤ a ∨ ltI dj[j]! dj[j - 1]! = false) → ∀ q, ∃ i' dk', Value.int .i64 ((i : Int) + 1) = .int .i64 (i' : Nat) ∧ a < i' ∧ i' ≤ b + 1 ∧ dk'.size = d.size ∧
            Row (wr.drewN q) g o cap dk' ∧ Fr (· = g) w (wr.drewN q) ∧ (wr.drewN q).heap.size = w.heap.size ∧ insOuter ltI a b i' dk' = insOuter ltI a b (a + 1) d := fun hs q =>
          ⟨i + 1, dj, by go_num, by omega, by omega, hsj, HR.out.drewN _, HF.out.drewN _, HS.out,
            by rw [← HO.out, insOuter_go _ _ _ _ _ hlt, ← HI.out, insInner_stop _ _ _ _ hs]⟩
        have OUT : Hid _ := out
        clear out
        go_wp2
        by_cases hja : a < j
        · go_quiet (first | (go_at_call 129; refine Calls.quiet_of_same (less _ _ _)))
          go_wp2
          · -- less: swap
            have hl : ltI (G j) (G (j - 1)) = true := by assumption
            go_region
            all_goals go_wp2
            go_roundw
            case rel =>
              refine ⟨j - 1, swp dj j (j - 1), by congr 1; omega, by omega, by omega, by rw [size_swp]; exact hsj, ?_, ?_, ?_, ?_⟩
              · rw [HG.out, HG.out]; exact (HR.out.drewN _).swap
              · exact ((HF.out.drewN _).setCell (.inl rfl) _).setCell (.inl rfl) _
              · have := HS.out
                simpa [World.setCell] using this
              · rw [← HI.out, insInner_go ltI a j dj hja (by rw [← HG.out, ← HG.out]; exact hl)]
            case measure => simp [intOf]; omega
          · have hl : ltI (G j) (G (j - 1)) = false := by assumption
            go_roundw
            case rel => exact OUT.out (Or.inr (by rw [← HG.out, ← HG.out]; exact hl)) nq
            case measure => simp [intOf]; omega
        · go_quiet (first | (go_at_call 129; refine Calls.quiet_of_same (less _ _ _)))
          go_wp2
          go_roundw
          case rel => exact OUT.out (Or.inl (by omega)) nq
          case measure => simp [intOf]; omega
    · have hge : ¬ i < b := by assumption
      go_end0
      exact ⟨rfl, by unfold Sort.insertionSort; rw [← HO.out, insOuter_stop _ _ _ _ _ hge]; exact hR, hF, hS⟩
/-! ### slices.Sort of 12 or fewer -/
set_option maxRecDepth 100000 in
theorem len64 (x : Nat) (hx : x ≤ 12) (w : World) : Calls Try.prog 114 #[.int .u64 x] w fun e w' => ∃ k : Int, e = .returned (.int .i64 k) ∧ w' = w := by
  have h : x = 0 ∨ x = 1 ∨ x = 2 ∨ x = 3 ∨ x = 4 ∨ x = 5 ∨ x = 6 ∨ x = 7 ∨ x = 8 ∨ x = 9 ∨ x = 10 ∨ x = 11 ∨ x = 12 := by omega
  rcases h with rfl | rfl | rfl | rfl | rfl | rfl | rfl | rfl | rfl | rfl | rfl | rfl | rfl
  all_goals
    go_enter Try.func114, Try.ntmps114
    go_wp2
    go_ret
    exact ⟨_, rfl, rfl⟩
theorem len (x : Nat) (hx : x ≤ 12) (w : World) : Calls Try.prog 98 #[.int .u64 x] w fun e w' => ∃ k : Int, e = .returned (.int .i64 k) ∧ w' = w := by
  go_enter Try.func98, Try.ntmps98
  go_wp2_with (go_at_call 114; refine (len64 x hx w).mono ?_; rintro e w' ⟨k, rfl, rfl⟩)
  go_ret
  exact ⟨_, rfl, rfl⟩

theorem insertion0 (v : Value) (w : World) : Calls Try.prog 123 #[v, .int .i64 0, .int .i64 0] w fun e w' => e = .returned (.tuple #[]) ∧ w' = w := by
  go_enter Try.func123, Try.ntmps123
  go_wp2
  refine wp_loop_rounds 1 ?_
  rw [rounds_succ]
  go_wp2
  go_end0
  exact ⟨rfl, rfl⟩

theorem pdq12 (v : Value) (n : Nat) (hn : n ≤ 12) (k : Int) (w : World) (X : World → Prop) (hI : Calls Try.prog 123 #[v, .int .i64 0, .int .i64 n] w fun e w' => e = .returned (.tuple #[]) ∧ X w') :
    Calls Try.prog 103 #[v, .int .i64 0, .int .i64 n, .int .i64 k] w fun e w' => e = .returned (.tuple #[]) ∧ X w' := by
  go_enter Try.func103, Try.ntmps103
  go_wp2
  refine wp_loop_rounds 1 ?_
  rw [rounds_succ]
  go_wp2_with (go_at_call 123; refine hI.mono ?_; rintro e w' ⟨rfl, hX⟩)
  all_goals first | omega | skip
  refine bodyPost_ret (results_none rfl _ _ _) rfl ?_
  exact ⟨rfl, hX⟩

theorem sort12 (w : World) (v : Value) (xs : List Int) (hl : xs.length ≤ 12) (h : OwnS w 3 1 v xs.length (xs.map (Value.int .i64))) :
    Calls Try.prog 94 #[v] w fun e w' => e = .returned (.tuple #[]) ∧ ∃ ys : List Int, ys.Perm xs ∧ ys.Pairwise (· ≤ ·) ∧ OwnS w' 3 1 v ys.length (ys.map (Value.int .i64)) ∧ Fr (fun k => v.ownBlock = some k) w w' ∧ w'.heap.size = w.heap.size := by
  obtain ⟨a, cap, rfl, hc, hc'⟩ := h.form
  have hI : Calls Try.prog 123 #[.slice a xs.length cap, .int .i64 0, .int .i64 xs.length] w fun e w' => e = .returned (.tuple #[]) ∧ ∃ ys : List Int, ys.Perm xs ∧ ys.Pairwise (· ≤ ·) ∧ OwnS w' 3 1 (.slice a xs.length cap) ys.length (ys.map (Value.int .i64)) ∧ Fr (fun k => (Value.slice a xs.length cap).ownBlock = some k) w w' ∧ w'.heap.size = w.heap.size := by
    cases xs with
    | nil =>
      refine (insertion0 _ w).mono ?_
      rintro e w' ⟨rfl, rfl⟩
      exact ⟨rfl, [], List.Perm.refl _, List.Pairwise.nil, h, Fr.refl _ _, rfl⟩
    | cons x xs =>
      rcases h.2 with ⟨h1, h2⟩ | ⟨g, o, cap', cur, hv, h2⟩
      · simp at h2
      · obtain ⟨rfl⟩ : a = some ⟨g, o, none⟩ := by injection hv
        have hR : Row w g o cap (x :: xs).toArray := h
        refine (insertion w g o cap 0 (x :: xs).length (x :: xs).toArray hR (Nat.zero_le _) (by simp) (by simp at hl ⊢; omega)).mono ?_
        rintro e w' ⟨rfl, hR', hF, hS⟩
        obtain ⟨hP, hSo⟩ := insertionSort_holds (lt := ltI) swoI (x :: xs).toArray 0 (x :: xs).length (Nat.zero_le _) (by simp)
        generalize insertionSort ltI (x :: xs).toArray 0 (x :: xs).length = r at hR' hP hSo
        obtain ⟨hs1, hs2, hs3⟩ := hP
        have hs1' : r.size = (x :: xs).length := by rw [hs1]; rfl
        have e1 : (r.extract 0 (x :: xs).length).toList = r.toList := by rw [← hs1']; simp
        have e2 : ((x :: xs).toArray.extract 0 (x :: xs).length).toList = x :: xs := by simp
        rw [e1, e2] at hs3
        unfold Row at hR'
        rw [hs1'] at hR'
        refine ⟨rfl, r.toList, hs3, ?_, by
          have e3 : r.toList.length = (x :: xs).length := by rw [Array.length_toList, hs1']
          rw [e3]; exact hR', hF.mono (fun i _ hi => by rw [hi]; rfl), hS⟩
        rw [List.pairwise_iff_getElem]
        intro i j hi hj hij
        have := hSo i j (Nat.zero_le _) hij (by rw [← hs1']; simpa using hj)
        simp at hi hj
        rw [getElem!_pos r j (by simpa using hj), getElem!_pos r i (by simpa using hi)] at this
        simpa [ltI] using this
  go_enter Try.func94, Try.ntmps94
  go_wp2_with (first | (go_at_call 98; refine (len xs.length hl w).mono ?_; rintro e w' ⟨k, rfl, rfl⟩) | (go_at_call 103; refine (pdq12 _ xs.length hl _ _ _ hI).mono ?_; rintro e w' ⟨rfl, hX⟩))
  go_end0
  exact ⟨rfl, hX⟩
end Go.Proofs.Ytekiccbhjnfciaa.insI
