/- The example at the head of all statements of layer 9; then the whole: any script. -/
import Derived.Test.YtekiccbhjnfciaaDT2
import Derived.Test.YtekiccbhjnfciaaDT3
namespace Go.Proofs.Ytekiccbhjnfciaa
open Go.RowKit
theorem good_nil : Good [] := ⟨List.Pairwise.nil, fun p hp => (by cases hp), by simp, fun p hp => (by cases hp)⟩
theorem aw_watch : watchI 10 [] 3 100 = (0, [⟨3, 100, 0, 10, false⟩]) := by kernel_rfl
theorem aw_susp0 : suspI [⟨3, 100, 0, 10, false⟩] 110 = [] := by kernel_rfl
theorem aw_susp1 : suspI [⟨3, 100, 0, 10, false⟩] 111 = [3] := by kernel_rfl
theorem aw_beat : (beatI [⟨3, 100, 0, 10, false⟩] 3 111).1 = 0 := by kernel_rfl
theorem aw_find : findP (beatI [⟨3, 100, 0, 10, false⟩] 3 111).2 3 = some ⟨3, 111, 11, 20, false⟩ := by kernel_rfl
theorem aw_wait : (⟨3, 111, 11, 20, false⟩ : PeerI).wait = 21 := by kernel_rfl
theorem fr_same {mb : Nat} {w w1 w2 : World} (h : Same w w1) (hmb : w.heap.size ≤ mb) (hf : Fr (· = mb) w1 w2) : Same w w2 := Fr.trans' (S := fun _ => False) h hf (fun _ h => h) (fun k hk hh => by omega)
set_option maxRecDepth 100000 in
set_option maxHeartbeats 4000000 in
theorem awake11 (w : World) : Calls Try.prog 11 #[] w fun e w' => e = .returned (.bool true) ∧ Same w w' := by
  go_enter Try.func11, Try.ntmps11
  go_upto_region 2 with (go_at_call 12; refine (new12 10 (by omega) _).mono ?_; rintro e w1 ⟨d, mb, hd, hmb, rfl, hI, hs1⟩)
  go_upto_region 4 with (go_at_call 39; refine (watch39 w1 d mb 10 [] 3 100 hI).mono ?_; rintro e w2 ⟨rfl, hI2, hf2⟩; rw [aw_watch] at hI2 ⊢)
  have hs2 := fr_same hs1 hmb hf2
  have hg2 := watchI_good (g := 10) good_nil 3 100
  rw [aw_watch] at hg2
  have hmb2 : mb < w2.heap.size := by obtain ⟨M, hM, _⟩ := hI2.map; exact hM.lt
  clear hf2 hs1 hI
  go_upto_region 5 with (go_at_call 40; refine (susp40 w2 d mb 10 _ 110 hg2 hI2).mono ?_; rintro e w3 ⟨v3, rfl, ho3, hok3, hs3⟩; rw [aw_susp0] at ho3)
  go_upto_region 6 with (go_at_call 40; refine (susp40 w3 d mb 10 _ 111 hg2 (hI2.same hs3)).mono ?_; rintro e w4 ⟨v4, rfl, ho4, hok4, hs4⟩; rw [aw_susp1] at ho4)
  have hs34 := hs3.trans hs4
  have hI4 := hI2.same hs34
  have hs5 := hs2.trans hs34
  have hz3 := hs3.size
  clear hI2 hs2 hs3
  go_upto_region 7 with (go_at_call 41; refine (beat41 w4 d mb 10 _ 3 111 hg2 hI4).mono ?_; rintro e w5 ⟨rfl, hI5, hf5⟩; rw [aw_beat])
  have hs6 := fr_same hs5 hmb hf5
  have hw := wait42 w5 d mb 10 _ 3 hI5
  rw [aw_find] at hw
  dsimp only at hw
  rw [aw_wait] at hw
  go_upto_region 8 with (go_at_call 42; refine hw.mono ?_; rintro e w6 ⟨rfl, hs7⟩)
  obtain ⟨a3, c3, rfl, hc3, -⟩ := ho3.form
  obtain ⟨a4, c4, rfl, hc4, -⟩ := ho4.form
  have hs8 := hs6.trans hs7
  have k4 := (ho4.fr hf5 (fun k hk hh => by have := hok4 k hk; omega)).same hs7
  obtain ⟨ad, rfl⟩ : ∃ ad, a4 = some ad := by
    rcases k4.2 with ⟨h, h0⟩ | ⟨g, o, cap, cur, h, _⟩
    · simp at h0
    · cases h; exact ⟨_, rfl⟩
  have k5 : w6.cell? (ad.add 0) = some (.int .i64 3) := k4.cells rfl 0 _ rfl
  have e0 : ad.add 0 = ad := by simp [Addr.add]
  rw [e0] at k5
  clear e0 ho3 ho4 k4 hf5 hI5 hI4 hw hs7 hs6 hs34 hs4 hmb2 hz3 hok3 hok4 hd hmb
  go_wp2
  go_ret
  exact ⟨rfl, hs8⟩
end Go.Proofs.Ytekiccbhjnfciaa
