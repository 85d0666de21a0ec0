/- The keys of a map, given one by one to a loop's body, and collected: maps.Keys, slices.Collect (keys of kind .i64). -/
import Derived.Test.YtekiccbhjnfciaaBase2
import Derived.RangeFuncBox
import Derived.RangeFuncLeaves
import Derived.RangeFuncNested
import Derived.RangeFuncBound
import Derived.Shelf.Abstract
import Derived.OwnWalkIn
import Derived.TacticsInMore
import Derived.LoopNIn
import Derived.LoopIn
import Derived.Sort.MapsRangeIn
import Derived.Test.YtekiccbhjnfciaaProg
namespace Go.Proofs.Ytekiccbhjnfciaa.iterI
open Go.RowKit Go.Shelf
attribute [local go_sem] Oper.semAt_some

section
variable {F : Fence} {n : Nat} {P : Program} {κ : Type} [DecidableEq κ] {enc : κ → Value} {w : World} {ops : Array Oper} {rest : List Oper} {o : Oper} {a : Act} {Q : Exit → Act → World → Prop}
omit [DecidableEq κ] in
theorem inRange (hg : o.guard = none) (m : Operand) (t : TypeId) (hop : o.op = Op.range t m) {e kt : TypeId} (ht : P.underlying t = some (.map kt e)) {b : Nat} {M : List (κ × Value)}
    (hm : a.eval m = .map (some b)) (hM : MapIs enc w b M)
    (hK : ∀ ob, IterIs enc (w.alloc ob) w.heap.size b M M → wpListIn F n P ops Q rest (a.put o.dst (.pointer (some ⟨w.heap.size, 0, none⟩))) (w.alloc ob)) : wpListIn F n P ops Q (o :: rest) a w := by
  refine wpListIn_plain hg fun K' hK' => ?_
  obtain ⟨ob, hrun, h1⟩ := run_range_raw ht hM
  unfold Oper.wpIn
  refine ⟨by simp [Oper.about, hop], ?_⟩
  rw [Oper.semAt_plain F _ _ (by rw [hop]; intro c hc'; cases hc')]
  simp [execOp, hop, hm, hrun, Result.andThen]
  exact hK' _ _ (hK _ h1)
theorem inNext (hg : o.guard = none) (it : Operand) (hop : o.op = Op.next it false) {r b : Nat} {M left : List (κ × Value)} (hit : a.eval it = .pointer (some ⟨r, 0, none⟩)) (h : IterIs enc w r b M left)
    (hDone : left = [] → wpListIn F n P ops Q rest (a.put o.dst (.tuple #[.bool false])) w)
    (hMore : ∀ x ∈ left, ∀ w', IterIs enc w' r b M (mdel left x.1) → Fr (· = r) w w' → w'.heap.size = w.heap.size → (Instr.entry (.pointer (some ⟨r, 0, none⟩))).run P w' = .ok (.tuple #[enc x.1, x.2]) w' →
      wpListIn F n P ops Q rest (a.put o.dst (.tuple #[.bool true, enc x.1, x.2])) w') : wpListIn F n P ops Q (o :: rest) a w := by
  refine wpListIn_plain hg fun K' hK' => ?_
  unfold Oper.wpIn
  refine ⟨by simp [Oper.about, hop], ?_⟩
  rw [Oper.semAt_plain F _ _ (by rw [hop]; intro c hc'; cases hc')]
  rcases run_next_raw (P := P) h o.type with ⟨h0, hrun⟩ | ⟨x, hx, w', hrun, h1, h2, h3, h4⟩
  · simp [execOp, hop, hit, hrun, Result.andThen]
    exact hK' _ _ (hDone h0)
  · simp [execOp, hop, hit, hrun, Result.andThen]
    exact hK' _ _ (hMore x hx w' h1 h2 h3 h4)

omit [DecidableEq κ] in
theorem rangeLeft_eq {r b : Nat} {M left : List (κ × Value)} (h : IterIs enc w r b M left) : w.rangeLeft b r = left.length := by
  obtain ⟨L, clock, since, seen, c0, h1, _, _, _, _, h6, _, _, _, rfl⟩ := h
  have e1 : ∀ a : Array MapEntry, (leftOf a seen).size = (a.toList.filter fun e => !seen.contains e.born).length := fun a => by
    unfold leftOf
    rw [← Array.length_toList, Array.toList_filter]
  simp only [World.rangeLeft, h1, h6, e1, List.filter_map, List.length_map]
  rfl
omit [DecidableEq κ] in
theorem iter_walk {r b : Nat} {M left : List (κ × Value)} (h : IterIs enc w r b M left) : ∃ o : Obj, w.heap[r]? = some o ∧ o.isWalk = true := by
  obtain ⟨L, clock, since, seen, c0, h1, _, _, _, _, h6, _⟩ := h
  exact ⟨_, h6, rfl⟩
omit [DecidableEq κ] in
theorem iter_keeps {w' : World} {r b : Nat} {M left : List (κ × Value)} (h : IterIs enc w r b M left) (k : KeepsWalks w w') : IterIs enc w' r b M left := by
  obtain ⟨L, clock, since, seen, c0, h1, h2, h3, h4, h5, h6, h7⟩ := h
  exact ⟨L, clock, since, seen, c0, k.same _ _ h1 rfl, h2, h3, h4, h5, k.same _ _ h6 rfl, h7⟩
omit [DecidableEq κ] in
theorem iter_nodup {r b : Nat} {M left : List (κ × Value)} (h : IterIs enc w r b M left) : (left.map (·.1)).Nodup := by
  obtain ⟨L, clock, since, seen, c0, h1, _, h3, _, _, h6, _, _, _, rfl⟩ := h
  rw [List.map_map]
  exact (h3.sublist ((List.filter_sublist (p := fun x : κ × Value × Nat => !seen.contains x.2.2) (l := L)).map (·.1)))
theorem mdel_perm {left : List (κ × Value)} (hn : (left.map (·.1)).Nodup) {x : κ × Value} (hx : x ∈ left) : (left.map (·.1)).Perm (x.1 :: (mdel left x.1).map (·.1)) := by
  induction left with
  | nil => cases hx
  | cons y l ih =>
    have hn' : y.1 ∉ l.map (·.1) ∧ (l.map (·.1)).Nodup := List.nodup_cons.1 hn
    rcases List.mem_cons.1 hx with rfl | h
    · have : mdel (x :: l) x.1 = l := by
        unfold mdel
        rw [List.filter_cons_of_neg (by simp)]
        rw [List.filter_eq_self]
        intro z hz
        have : z.1 ≠ x.1 := fun e => hn'.1 (by rw [← e]; exact List.mem_map_of_mem (f := (·.1)) hz)
        simp [this]
      rw [this]; exact List.Perm.refl _
    · have hne : ¬ y.1 = x.1 := fun e => hn'.1 (by rw [e]; exact List.mem_map_of_mem (f := (·.1)) h)
      have : mdel (y :: l) x.1 = y :: mdel l x.1 := by
        unfold mdel
        rw [List.filter_cons_of_pos (by simp [hne])]
      rw [this]
      simp only [List.map_cons]
      exact ((ih hn'.2 h).cons y.1).trans (List.Perm.swap _ _ _)
end

theorem infoE : (Try.prog.info? 3).map (fun i => (i.zero, i.size, i.bytes)) = some (some (.int .i64 0), 1, 8) := by kernel_rfl

set_option maxRecDepth 100000 in
set_option maxHeartbeats 2000000 in
/-- the iterator: every key comes once -/
theorem keys1 (l Bm b : Nat) (M : List (Int × Value)) (J Jx : List Int → World → Prop) (m : Nat) (hm : 1 ≤ m)
    (hY : ∀ pre x W, J pre W → pre.length < M.length → YieldAt Fence.wide (m - 1) Try.prog l #[.int .i64 x] W fun e W' =>
      (e = .returned (.bool true) ∧ J (pre ++ [x]) W' ∧ KeepsWalks W W') ∨ (e = .returned (.bool false) ∧ Jx (pre ++ [x]) W'))
    (W : World) (hJ : AbidesFrom W.heap.size J) (hm : W.cell? ⟨Bm, 0, none⟩ = some (.map (some b))) (hM : MapIs (Value.int .i64) W b M) (h0 : J [] W) :
    CallsIn Fence.wide m Try.prog 95 #[.func (.yield l) #[] #[], .pointer (some ⟨Bm, 0, none⟩)] W fun e W' => (∃ v, e = .returned v) ∧
      ((∃ ss : List Int, ss.Perm (M.map (·.1)) ∧ J ss W') ∨ (∃ pre : List Int, True ∧ Jx pre W')) := by
  refine callsIn_of_wp Try.func95 rfl trivial ?_ rfl
  simp only [Try.ntmps95, List.size_toArray, List.length_cons, List.length_nil, Nat.reduceAdd, Nat.reduceSub, Array.replicate_succ, Array.replicate_zero, List.push_toArray, List.append_toArray, List.nil_append, List.cons_append]
  gi_wp2_with (first
    | (gi_at_range; refine inRange rfl _ _ rfl Try.underlying99 rfl hM ?_; intro ob hI0)
    | gi_in)
  go_frame
  gi_loopw [3] (fun _ wr => ∃ (ss : List Int) (left : List (Int × Value)), IterIs (Value.int .i64) wr W.heap.size b M left ∧ (ss ++ left.map (·.1)).Perm (M.map (·.1)) ∧ J ss wr)
    (fun _ wr => wr.rangeLeft b W.heap.size)
  case atStart =>
    exact ⟨[], M, hI0, List.Perm.refl _, hJ [] W _ none h0 (World.grownBy_alloc W ob none) (fun r e => by cases e)⟩
  case round =>
    obtain ⟨ss, left, hI, hP, hJs⟩ := hrel
    have hnd := iter_nodup hI
    gi_wp2_with (first
      | (gi_at_next; refine inNext rfl _ rfl rfl hI ?_ ?_)
      | gi_in)
    · -- nothing is left
      intro hl0
      subst hl0
      gi_wp2
      go_end0
      exact ⟨⟨_, rfl⟩, .inl ⟨ss, by simpa using hP, hJs⟩⟩
    · -- an entry has come
      intro xk xv hx w2 hI2 hF2 hs2 hen
      have hg2 : wr.grownBy w2 (some W.heap.size) := ⟨hF2.os, hF2.tape, hF2.output, hF2.size, fun k hk hne => hF2.block k hk (fun e => hne (by rw [e]))⟩
      have hJ2 : J ss w2 := hJ ss wr w2 (some W.heap.size) hJs hg2 (fun r e => by cases e; exact ⟨Nat.le_refl _, iter_walk hI⟩)
      have hPx := mdel_perm hnd hx
      have hlen : ss.length < M.length := by
        have h1 := hP.length_eq
        have h2 : 0 < left.length := List.length_pos_of_mem hx
        simp at h1
        omega
      obtain ⟨fn, tmps, assign, body, hy, hR⟩ := hY ss xk w2 hJ2 hlen
      clear hs2
      gi_wp2
      refine hR.mono ?_
      rintro e W3 (⟨rfl, hJ3, hk3⟩ | ⟨rfl, hJx3⟩)
      · gi_wp2
        have hI3 := iter_keeps hI2 hk3
        have hle := hPx.length_eq
        go_roundw
        case rel => exact ⟨ss ++ [xk], mdel left xk, hI3, by
          refine List.Perm.trans ?_ hP
          rw [List.append_assoc]
          exact List.Perm.append_left ss hPx.symm, hJ3⟩
        case measure => rw [rangeLeft_eq hI3, rangeLeft_eq hI]; simp at hle; omega
      · gi_wp2
        refine bodyPost_ret (results_none rfl _ _ _) rfl ?_
        exact ⟨⟨_, rfl⟩, .inr ⟨_, trivial, hJx3⟩⟩

theorem stops (Bm b : Nat) (M : List (Int × Value)) (w : World) (m : Nat) (hm1 : 1 ≤ m) (hBm : Bm < w.heap.size)
    (hm : w.cell? ⟨Bm, 0, none⟩ = some (.map (some b))) (hM : MapIs (Value.int .i64) w b M) :
    SeqStopsK Fence.wide m Try.prog 95 #[.pointer (some ⟨Bm, 0, none⟩)] (fun x : Int => #[Value.int .i64 x]) KeepsWalks (fun ss => ss.Perm (M.map (·.1))) (fun _ => True) M.length w := fun l J Jx W hW hJ _ hY h0 =>
  keys1 l Bm b M J Jx m hm1 hY W hJ ((hW.cell (p := ⟨Bm, 0, none⟩) hBm).trans hm) (hM.of_heap (hW.block b hM.lt)) h0

set_option maxRecDepth 100000 in
set_option maxHeartbeats 2000000 in
/-- slices.AppendSeq(nil, maps.Keys(m)) -/
theorem appendSeq (Bm b : Nat) (M : List (Int × Value)) (w : World) (hBm : Bm < w.heap.size) (hm : w.cell? ⟨Bm, 0, none⟩ = some (.map (some b))) (hM : MapIs (Value.int .i64) w b M) (hlen : M.length ≤ 1000) :
    CallsIn Fence.wide 5 Try.prog 102 #[.slice none 0 0, .func (.func 95) #[] #[.pointer (some ⟨Bm, 0, none⟩)]] w fun e W' => ∃ (v : Value) (ss : List Int), e = .returned v ∧ ss.Perm (M.map (·.1)) ∧
      W'.ownsRow w.heap.size 3 1 v ss.length (ss.map (Value.int .i64)) ∧ Below w.heap.size w W' := by
  obtain ⟨i0, hi, hz0, hz1, hz2⟩ := info_parts infoE
  refine callsIn_of_wp_marks Try.func102 rfl trivial ?_ rfl
  simp only [Try.ntmps102, List.size_toArray, List.length_cons, List.length_nil, Nat.reduceAdd, Nat.reduceSub, Array.replicate_succ, Array.replicate_zero, List.push_toArray, List.append_toArray, List.nil_append, List.cons_append]
  gi_wp2
  have bO := Boxed.new w 95 (.slice none 0 0)
  have hB0 : Below w.heap.size w (w.alloc (.cells #[.slice none 0 0] 95)) := (Below.refl _ w).alloc (Nat.le_refl _) _
  refine wpIn_rangeFunc_ownG rfl (by omega) (gf := 95) (lb := #[.pointer (some ⟨Bm, 0, none⟩)]) rfl trivial (enters_of Try.func95 (by kernel_rfl) rfl)
    (stops Bm b M _ _ (by omega) (by simp; omega) ((hB0.cell (p := ⟨Bm, 0, none⟩) hBm).trans hm) (hM.alloc _)) walksK_t (walksK_b (w := w.alloc (.cells #[.slice none 0 0] 95))) (Below.refl _ _) (fun _ => rfl)
    (fun pre W => (∃ v, Boxed W w.heap.size 95 v ∧ W.ownsRow w.heap.size 3 1 v pre.length (pre.map (Value.int .i64)) ∧ True) ∧ Below w.heap.size w W)
    (fun _ _ _ => False)
    (OwnFrom.and (Own.from (holdsRow_own w.heap.size w.heap.size 95 3 1 (fun pre : List Int => pre.length) (fun pre => pre.map (Value.int .i64)) (fun _ _ => True)) _) (ownFrom_below (Nat.le_refl _) (by simp)))
    (fun _ _ _ _ _ hs _ _ => hs)
    ⟨⟨_, bO, World.ownsRow_nil _ _ _ _, trivial⟩, hB0⟩
    (fun x => { tmps := #[.slice none 0 0, .func (.func 95) #[] #[.pointer (some ⟨Bm, 0, none⟩)], .pointer (some ⟨w.heap.size, 0, none⟩), undef, .slice none 0 0, .int .i64 x, .func (.func 95) #[] #[.pointer (some ⟨Bm, 0, none⟩)], .int .i64 x, undef, undef, undef, undef, undef], defers := [] }) ?assign ?body ?done ?stop
  case assign =>
    intro l x W K hK
    gi_wp2
    exact hK
  case body =>
    rintro l pre x W ⟨⟨v, hv, hrow, _⟩, hB⟩ hlt
    have hc := hv.cell
    have hmx : (1000 : Nat) + 1 ≤ maxLen := by decide
    gi_wp2_with (gi_at_builtin; refine wpListIn_append_own _ rfl _ _ 95 rfl w.heap.size 3 i0 (.int .i64 0) 1 8 Try.underlying95 hi hz0 hz1 hz2 rfl (by decide) _ _ _ rfl (hrow.alloc _) ⟨W.heap.size, 0, none⟩ 1 1 [.int .i64 x] rfl rfl (cell_one_new _ _ _) (by simp [Value.oneCell']) (by omega) (by omega) (by have := hB.size; simp; omega) ?_; intro v' w1 hown' hgrow _; obtain ⟨g', cap', rfl⟩ := ownsRow_succ hown'; obtain ⟨hv1, hv2, hr2, hk2, hb2⟩ := hv.appended (by decide) hrow hB.size (Nat.le_refl _) hown' hgrow; have hc1 := hv1.cell; have hf1 := hv1.frozen)
    exact ⟨hk2.from _, ⟨hk2.size, fun k o hk ho => hk2.same k o hk (Obj.not_cells_of_walk ho)⟩, ⟨_, hv2, by simpa using hr2, trivial⟩, hB.trans hb2⟩
  case done =>
    rintro D ys W hD hS ⟨⟨v, hv, hrow, _⟩, hB⟩ hK
    have hc := hv.cell
    gi_wp2
    refine ⟨by simp, .inl ⟨_, _, rfl, run_takeDeferred hK, ?_⟩⟩
    exact ⟨_, results_tmp rfl _ _ _, v, ys, rfl, hS, ownsRow_putObj hrow _ hK rfl, hB.trans (belowK_b (w := w) (Nat.le_refl _) W D _ _ (by simp at hD; omega) hK rfl rfl)⟩
  case stop =>
    rintro D c pre W _ _ h _
    exact h.elim

end Go.Proofs.Ytekiccbhjnfciaa.iterI
