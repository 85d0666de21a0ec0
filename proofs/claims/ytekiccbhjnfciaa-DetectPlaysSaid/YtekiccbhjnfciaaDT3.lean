/- The waits of all nodes, of both detectors. -/
import Derived.Test.YtekiccbhjnfciaaDT1
namespace Go.Proofs.Ytekiccbhjnfciaa
open Go.RowKit
set_option maxRecDepth 100000 in
set_option maxHeartbeats 8000000 in
theorem waits14 (A : At) (now : Int) (w0 w : World) (L : List PeerI) (h : Tw A now w0 w L L) : Calls Try.prog 14 #[.pointer (some ⟨A.tb, 0, none⟩)] w fun e w' => e = .returned (.bool true) ∧ Same w w' := by
  have hG := h.good1
  have hll := hG.len
  obtain ⟨v, hv⟩ := h.ref
  obtain ⟨va, vc, rfl, hvc, -⟩ := hv.own.form
  have hc : ∀ W, Same w W → W.cell? ⟨A.tb, 0, none⟩ = some (.pointer (some ⟨A.d, 0, none⟩)) ∧ W.cell? ⟨A.tb, 1, none⟩ = some (.pointer (some ⟨A.r, 0, none⟩)) ∧ W.cell? ⟨A.r, 1, none⟩ = some (.slice va L.length vc) :=
    fun W hW => ⟨(h.blk.same hW).cell 0, (h.blk.same hW).cell 1, (hv.same hW).blk.cell 1⟩
  have HC := Lib.hid hc
  clear hc
  obtain ⟨q0, q1, q2⟩ := HC.out w (Same.refl w)
  go_enter Try.func14, Try.ntmps14
  go_wp2_with (go_at_call 52; refine (peers52 w A.d A.mb A.g L hG h.imp).mono ?_; rintro e w1 ⟨l, rfl, ho, hok, hs1⟩; obtain ⟨la, lc, rfl, hlc, -⟩ := ho.form; clear q0 q1 q2; obtain ⟨q0, q1, q2⟩ := HC.out w1 hs1)
  go_loopw [4, 5, 6] (fun s4 s5 s6 wx => ∃ (q : Nat), s4 = .int .i64 q ∧ q ≤ L.length ∧ Same w1 wx) (fun s4 _ _ _ => L.length - (intOf s4).toNat)
  case atStart => exact ⟨0, rfl, by omega, Same.refl _⟩
  case round =>
    obtain ⟨q, rfl, hq, hS⟩ := hrel
    by_cases hlt : q < L.length
    · obtain ⟨p, hp⟩ : ∃ p, L[q]? = some p := ⟨L[q], by simp [hlt]⟩
      have hx1 : (q : Int) < (L.length : Int) := by omega
      have hx2 : (0 : Int) ≤ (q : Int) := by omega
      have hx3 : ((q : Int)).toNat = q := by omega
      obtain ⟨gl, ol, rfl⟩ : ∃ g o, la = some ⟨g, o, none⟩ := by
        rcases ho.2 with ⟨h, h0⟩ | ⟨g, o, cap, cur, h, _⟩
        · omega
        · cases h; exact ⟨g, o, rfl⟩
      obtain ⟨gb, o, cap, hvv, -⟩ := hv.cells hp
      cases hvv
      have hcl : ∀ W, Same w1 W → W.cell? ⟨gl, ol + q, none⟩ = some (.int .i64 p.id) := fun W hW => by
        have := (ho.same hW).cells rfl q (.int .i64 p.id) (by simp [hp])
        rw [add_at] at this
        exact this
      have hcv : ∀ W, Same w1 W → W.cell? ⟨gb, o + q * 5, none⟩ = some (.int .i64 p.id) ∧ W.cell? ⟨gb, o + q * 5 + 1, none⟩ = some (.int .i64 p.last) ∧ W.cell? ⟨gb, o + q * 5 + 2, none⟩ = some (.int .i64 p.mean) ∧
          W.cell? ⟨gb, o + q * 5 + 3, none⟩ = some (.int .i64 p.margin) ∧ W.cell? ⟨gb, o + q * 5 + 4, none⟩ = some (.bool p.told) := fun W hW => by
        obtain ⟨gb', o', cap', hvv', k0, k1, k2, k3, k4, -⟩ := (hv.same (hs1.trans hW)).cells hp
        cases hvv'
        exact ⟨k0, k1, k2, k3, k4⟩
      have hf := find_at hG hp
      have hcall : ∀ W, Same w1 W → Calls Try.prog 42 #[.pointer (some ⟨A.d, 0, none⟩), .int .i64 p.id] W fun e W' => e = .returned (.tuple #[.int .i64 p.wait, .int .i64 0]) ∧ Same w1 W' := fun W hW =>
        (wait42 W A.d A.mb A.g L p.id (h.imp.same (hs1.trans hW))).mono (by
          rintro e W' ⟨he, h2⟩
          rw [hf] at he
          exact ⟨he, hW.trans h2⟩)
      have hcall2 : ∀ W, Same w1 W → Calls Try.prog 53 #[.agg #[.int .i64 p.id, .int .i64 p.last, .int .i64 p.mean, .int .i64 p.margin, .bool p.told]] W fun e W' => e = .returned (.int .i64 p.wait) ∧ Same w1 W' := fun W hW =>
        (wait53 p W).mono (by
          rintro e W' ⟨he, h2⟩
          exact ⟨he, hW.trans h2⟩)
      have HCL := Lib.hid hcl; have HCV := Lib.hid hcv; have HC1 := Lib.hid hcall; have HC2 := Lib.hid hcall2; have HV := Lib.hid hv; have HF := Lib.hid hf
      clear hcl hcv hcall hcall2 hv hf hp
      go_wp2_with fail
      refine wp_region_class (fun W => Same w1 W) (by kernel_rfl) (by kernel_rfl) (Fr.drew (S := fun _ => False) hS) ?_
      repeat (
        refine class_step (v := ?_) (by go_simp) (fun W hW => ?_) ?_
        rotate_left
        · obtain ⟨q0, q1, q2⟩ := HC.out W (hs1.trans hW)
          have q3 := HCL.out W hW
          go_simp
          first | rfl | exact HC1.out _ hW
        simp only [Act.put, List.setIfInBounds_toArray, List.set_cons_zero, List.set_cons_succ])
      refine wpQuiet_nil ?_
      intro w3 hS3
      go_wp2_with fail
      refine wp_region_class (fun W => Same w1 W) (by kernel_rfl) (by kernel_rfl) (Fr.drew (S := fun _ => False) hS3) ?_
      repeat (
        refine class_step (v := ?_) (by go_simp) (fun W hW => ?_) ?_
        rotate_left
        · obtain ⟨q0, q1, q2⟩ := HC.out W (hs1.trans hW)
          have q3 := HCL.out W hW
          obtain ⟨k0, k1, k2, k3, k4⟩ := HCV.out W hW
          go_simp
          first | rfl | exact HC2.out _ hW
        simp only [Act.put, List.setIfInBounds_toArray, List.set_cons_zero, List.set_cons_succ])
      refine wpQuiet_nil ?_
      intro w4 hS4
      go_wp2_with fail
      go_roundw
      case measure => simp only [intOf]; omega
      case rel => exact ⟨q + 1, by go_num, by omega, hS4⟩
    · obtain rfl : q = L.length := by omega
      obtain ⟨q0, q1, q2⟩ := HC.out wr (hs1.trans hS)
      have hf : findP L 300 = none := by
        unfold findP
        rw [List.find?_eq_none]
        intro p hp
        have := hG.small p hp
        simp
        omega
      have hw := wait42 wr A.d A.mb A.g L 300 (h.imp.same (hs1.trans hS))
      rw [hf] at hw
      go_wp2_with (go_at_call 42; refine hw.mono ?_; rintro e w5 ⟨rfl, hs5⟩)
      go_ret
      exact ⟨rfl, (hs1.trans hS).trans hs5⟩
end Go.Proofs.Ytekiccbhjnfciaa
