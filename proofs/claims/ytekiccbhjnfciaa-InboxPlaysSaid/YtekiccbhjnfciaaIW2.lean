/- A call that is opened as the first one of an empty set of calls (a step of the statements' own example). -/
import Derived.Test.YtekiccbhjnfciaaIW1
import Derived.Test.YtekiccbhjnfciaaBase2
namespace Go.Proofs.Ytekiccbhjnfciaa
open Go.RowKit
theorem law46 : KeyOk Try.prog 46 (Value.int .u64) := KeyOk.int Try.underlying46
theorem wait9c (k : Int) (w : World) : Calls Try.prog 9 #[.int .i64 10, .int .i64 35, .int .i64 k] w fun e w' => e = .returned (.int .i64 (waitI 10 35 k)) ∧ w' = w :=
  (wait9 10 35 k w).mono fun _ _ ⟨h1, h2⟩ => ⟨h1, h2.symm⟩
theorem wait9_0 (w : World) : Calls Try.prog 9 #[.int .i64 10, .int .i64 35, .int .i64 0] w fun e w' => e = .returned (.int .i64 10) ∧ w' = w :=
  (wait9c 0 w).mono fun _ _ ⟨h1, h2⟩ => ⟨h1, h2⟩
theorem wait9_1 (w : World) : Calls Try.prog 9 #[.int .i64 10, .int .i64 35, .int .i64 1] w fun e w' => e = .returned (.int .i64 20) ∧ w = w' :=
  (wait9c 1 w).mono fun _ _ ⟨h1, h2⟩ => ⟨h1, h2.symm⟩

set_option maxRecDepth 100000 in
theorem open35 (w : World) (b m : Nat) (hb : Blk w b 131 #[.int .i64 2, .int .i64 10, .int .i64 35, .int .i64 2, .int .u64 0, .map (some m)]) (hm : MapIs (Value.int .u64) w m []) :
    Calls Try.prog 35 #[.pointer (some ⟨b, 0, none⟩), .int .i64 7, .int .i64 100] w fun e w' => e = .returned (.tuple #[.int .u64 1, .int .i64 0]) ∧
      Blk w' b 131 #[.int .i64 2, .int .i64 10, .int .i64 35, .int .i64 2, .int .u64 1, .map (some m)] ∧
      MapIs (Value.int .u64) w' m [(1, .agg #[.int .u64 1, .int .i64 7, .int .i64 100, .int .i64 1, .int .i64 110])] ∧ Fr (fun k => k = b ∨ k = m) w w' := by
  have c0 : w.cell? ⟨b, 0, none⟩ = some (.int .i64 2) := hb.cell 0
  have c1 : w.cell? ⟨b, 1, none⟩ = some (.int .i64 10) := hb.cell 1
  have c2 : w.cell? ⟨b, 2, none⟩ = some (.int .i64 35) := hb.cell 2
  have c4 : w.cell? ⟨b, 4, none⟩ = some (.int .u64 0) := hb.cell 4
  have c5 : w.cell? ⟨b, 5, none⟩ = some (.map (some m)) := hb.cell 5
  have f4 : w.frozen? ⟨b, 4, none⟩ = false := hb.frozen 4
  have hlen : ∀ ty, (Builtin.len_ #[129] ty #[.map (some m)]).run Try.prog w.drew = .ok (.int .i64 0) w.drew := fun ty => run_len_raw (ty := ty) Try.underlying129 (hm.drew)
  go_enter Try.func35, Try.ntmps35
  go_wp2_with fail
  go_still (by kernel_rfl)
  go_wp2_with fail
  have hb1 := (hb.set_ 4 (.int .u64 1)).drew
  have hm1 : MapIs (Value.int .u64) (w.setCell ⟨b, 4, none⟩ (.int .u64 1)).drew m [] := hm.setCell (by simpa using (hm.ne_blk hb).symm) _
  have hf1 : Fr (fun k => k = b ∨ k = m) w (w.setCell ⟨b, 4, none⟩ (.int .u64 1)).drew := (Fr.setCell (Fr.refl _ _) (.inl (.inl rfl)) _).drew
  clear c0 c1 c2 c4 c5 f4 hlen
  generalize (w.setCell ⟨b, 4, none⟩ (.int .u64 1)).drew = w1 at hb1 hm1 hf1 ⊢
  have c1 : w1.cell? ⟨b, 1, none⟩ = some (.int .i64 10) := hb1.cell 1
  have c2 : w1.cell? ⟨b, 2, none⟩ = some (.int .i64 35) := hb1.cell 2
  have c4 : w1.cell? ⟨b, 4, none⟩ = some (.int .u64 1) := hb1.cell 4
  have c5 : w1.cell? ⟨b, 5, none⟩ = some (.map (some m)) := hb1.cell 5
  go_still_tail 26, (by kernel_rfl)
  still_call (wait9_0 _)
  repeat still_step
  refine wpStill_nil ?_
  change wpList _ _ _ _ _ w1.drew
  go_wp2_with (at_mapUpdate; refine wpList_mapUpdate_raw rfl _ _ _ _ rfl law46 Try.underlying129 rfl (hm1.drew) 1 rfl _ rfl ?_; intro w2 hm2 hf2 hs2; have d4 : w2.cell? ⟨b, 4, none⟩ = some (.int .u64 1) := (Fr.cell hf2 hb1.lt (hm1.ne_blk hb1)).trans c4)
  go_ret2
  refine ⟨rfl, Blk.fr (S := fun x => x = m) hb1 hf2.undrew (hm1.ne_blk hb1), hm2, hf1.trans' hf2.undrew (fun _ h => h) (fun _ _ h => .inr h)⟩

theorem next72 (x0 x1 x2 x3 x4 : Value) (w : World) : Calls Try.prog 72 #[.agg #[x0, x1, x2, x3, x4]] w fun e w' => e = .returned (.bool true) ∧ w.alloc (.cells #[x0, x1, x2, x3, x4] 133) = w' := by
  go_enter Try.func72, Try.ntmps72
  go_wp2
  go_ret
  exact ⟨rfl, rfl⟩
theorem insert115 (v f : Value) (w : World) : Calls Try.prog 115 #[v, .int .i64 0, .int .i64 1, f] w fun e w' => e = .returned (.tuple #[]) ∧ w = w' := by
  go_enter Try.func115, Try.ntmps115
  go_wp2
  refine wp_loop_rounds 1 ?_
  rw [rounds_succ]
  go_wp2
  go_end0
  exact ⟨rfl, rfl⟩
end Go.Proofs.Ytekiccbhjnfciaa
