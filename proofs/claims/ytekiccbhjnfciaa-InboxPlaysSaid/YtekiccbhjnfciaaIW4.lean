/- The calls of a set of one call, sorted, are that call (a step of the statements' own example). -/
import Derived.Test.YtekiccbhjnfciaaIW3
namespace Go.Proofs.Ytekiccbhjnfciaa
open Go.RowKit
theorem info133 : (Try.prog.info? 133).map (fun i => (i.zero, i.size, i.bytes)) = some (some (.agg #[.int .u64 0, .int .i64 0, .int .i64 0, .int .i64 0, .int .i64 0]), 5, 40) := by kernel_rfl
set_option maxRecDepth 100000 in
theorem sorted71 (w : World) (b m : Nat) (u x0 x1 x2 x3 x4 : Int) (hc5 : w.cell? ⟨b, 5, none⟩ = some (.map (some m)))
    (hm : MapIs (Value.int .u64) w m [(u, .agg #[.int .u64 x0, .int .i64 x1, .int .i64 x2, .int .i64 x3, .int .i64 x4])]) :
    Calls Try.prog 71 #[.pointer (some ⟨b, 0, none⟩), .func (.func 72) #[] #[]] w fun e w' => ∃ v, e = .returned v ∧ OwnS w' 133 5 v 1 [.int .u64 x0, .int .i64 x1, .int .i64 x2, .int .i64 x3, .int .i64 x4] ∧ Same w w' := by
  obtain ⟨i0, hi, hz0, hz1, hz2⟩ := info_parts info133
  go_enter Try.func71, Try.ntmps71
  go_wp2_with (at_range; refine wpList_range_raw rfl _ _ rfl Try.underlying129 rfl hm ?_; intro ob hit)
  refine wp_loop_rounds 2 ?_
  rw [rounds_succ]
  go_wp2_with (first | (at_next; refine wpList_next_raw rfl _ rfl rfl hit (fun h => absurd h (by simp)) ?_; intro x hx w1 hit1 hf1 hs1 hen; obtain rfl := List.mem_singleton.1 hx; have HS1 := Lib.hid hs1; clear hs1) | (at_builtin; go_must (refine wpList_append_S rfl (.tmp 20) (.tmp 22) _ rfl 133 i0 _ 5 40 Try.underlying134 hi hz0 hz1 hz2 rfl (OwnS.nil _ _ _) rfl (RdS.new' (by simp) 133 5 1 [.int .u64 x0, .int .i64 x1, .int .i64 x2, .int .i64 x3, .int .i64 x4] rfl 1 (Nat.le_refl _)) rfl (by simp [Value.oneCell']) (by decide) (by decide) ?_); intro v2 w2 hown2 hf2 hv2 hn2) | (go_at_call 72; refine (next72 _ _ _ _ _ _).mono ?_; rintro e w' ⟨rfl, rfl⟩))
  have hfr : Same w1 w2 := Fr.trans' (S := fun _ => False) ((((Fr.refl _ _).alloc _).alloc _).alloc _) hf2 (fun _ h => h) (fun _ _ h => by cases (show none = some _ from h))
  have hit2 := IterIs.fr (S := fun _ => False) hit1 hfr (fun h => h) (fun h => h)
  have hsm : Same w w2 := Fr.trans' (S := fun _ => False) ((Fr.refl _ _).alloc _) (hf1.trans' (T := fun k => w.heap.size ≤ k) hfr (fun i h => by omega) (fun _ _ h => h.elim)) (fun _ h => h) (fun i h1 h2 => by omega)
  obtain ⟨av, cv, rfl, -⟩ := hown2.form
  clear hfr hf2 hf1 hv2 hn2 hx hit1 hen
  rw [rounds_succ]
  go_wp2_with (first | (at_next; refine wpList_next_raw rfl _ rfl rfl hit2 (fun _ => ?_) (fun x hx => absurd hx (by simp [mdel]))) | (go_at_call 88; refine (sortFunc88 _ _ _ _).mono ?_; rintro e w' ⟨rfl, rfl⟩))
  go_ret
  exact ⟨_, rfl, hown2, hsm⟩
end Go.Proofs.Ytekiccbhjnfciaa
