/-
  Whatever the room and the script, InboxPlays returns true: packets are taken in the order in which they were put, no more of them than there is room for.
  No condition: every int, every script that can be read.
-/
import Derived.Test.YtekiccbhjnfciaaRows
import Derived.Test.YtekiccbhjnfciaaIP7
import Derived.Test.YtekiccbhjnfciaaPost
import Derived.Test.YtekiccbhjnfciaaRead
namespace Go.Proofs.Ytekiccbhjnfciaa.inboxPlays
open Go.ChangeShapes Go.WideShapes Go.ChangeAt Go.RowKit
theorem laidOut : laidOutB Try.prog = true := by kernel_rfl
theorem own : ownKnob Try.prog.godebug = none := by kernel_rfl
section
variable {H : Type} {enc : TypeId × Value → H} {w : World} {base : Nat} {spare : Nat → Bool} {held : Bool}
theorem reach : reachBytes ≤ 140737488355328 := by decide
theorem read_bytes {cs : List Value} {d : DataW H} (h : Reads enc Try.prog w base spare held 47 cs d) (hk : ∀ k ∈ d.weights Try.prog 47, k ≤ reachBytes) :
    ∃ a m c bs, cs = [.slice a m c] ∧ Bytes w w.heap.size a m c bs ∧ m ≤ 140737488355328 := by
  obtain ⟨a, m, c, els, h1, _, _, h4, h5, h6, h7⟩ := Reads.slice Try.underlying47 (size := 1) (by kernel_rfl) (by omega) h
  have hb : ∀ (l : List (List Value × DataW H)), (∀ x ∈ l, ∃ b : Int, x.1 = [.int .u8 b]) → ∃ bs : List Int, l.flatMap (·.1) = bs.map (Value.int .u8) := by
    intro l
    induction l with
    | nil => intro _; exact ⟨[], rfl⟩
    | cons x l ih =>
      intro hl
      obtain ⟨b, hb⟩ := hl x List.mem_cons_self
      obtain ⟨bs, hbs⟩ := ih (fun y hy => hl y (List.mem_cons_of_mem _ hy))
      exact ⟨b :: bs, by simp [hb, hbs]⟩
  obtain ⟨bs, hbs⟩ := hb els (fun x hx => by
    obtain ⟨n, hn, _⟩ := Reads.int Try.underlying5 (h7 x hx).2.1
    exact ⟨n, hn⟩)
  refine ⟨a, m, c, bs, h1, by rw [hbs] at h5; exact h5, ?_⟩
  rcases Nat.eq_zero_or_pos m with h0 | h0
  · omega
  · obtain ⟨mm, h8, h9⟩ := h6 h0
    have h10 := hk _ h9
    have e : Try.prog.bytesOf 5 = 1 := by kernel_rfl
    rw [e] at h10
    have := reach
    omega
theorem read_op {cs : List Value} {d : DataW H} (h : Reads enc Try.prog w base spare held 51 cs d) (hk : ∀ k ∈ d.weights Try.prog 51, k ≤ reachBytes) :
    ∃ x : OpI, cs = x.cells ∧ Bytes w w.heap.size x.a x.m x.c x.bs ∧ x.m ≤ 140737488355328 := by
  obtain ⟨ds, hd, hl, hdl, hf⟩ := Reads.struct Try.underlying51 h
  have e51 : Try.prog.cellsOf 51 = 5 := by kernel_rfl
  have e49 : Try.prog.cellsOf 49 = 4 := by kernel_rfl
  have e3 : Try.prog.cellsOf 3 = 1 := by kernel_rfl
  have e46 : Try.prog.cellsOf 46 = 1 := by kernel_rfl
  have e47 : Try.prog.cellsOf 47 = 1 := by kernel_rfl
  rw [e51] at hl
  obtain ⟨c0, c1, c2, c3, c4, rfl⟩ := list5 hl
  obtain ⟨d0, d1, rfl⟩ := list2 hdl
  obtain ⟨h0, _⟩ := hf 0 _ d0 rfl rfl
  obtain ⟨h1, hk1⟩ := hf 1 _ d1 rfl rfl
  simp only [List.getElem_toArray, List.getElem_cons_zero, List.getElem_cons_succ] at h0 h1 hk1
  simp only [e3, e49, List.drop_zero, List.drop_succ_cons, List.take_succ_cons, List.take_zero] at h0 h1
  obtain ⟨kind, hc0, _⟩ := Reads.int Try.underlying3 h0
  obtain ⟨ps, _, _, hpl, hg⟩ := Reads.struct Try.underlying49 h1
  obtain ⟨p0, p1, p2, p3, rfl⟩ := list4 hpl
  obtain ⟨g0, _⟩ := hg 0 _ p0 rfl rfl
  obtain ⟨g1, _⟩ := hg 1 _ p1 rfl rfl
  obtain ⟨g2, _⟩ := hg 2 _ p2 rfl rfl
  obtain ⟨g3, gk3⟩ := hg 3 _ p3 rfl rfl
  simp only [List.getElem_toArray, List.getElem_cons_zero, List.getElem_cons_succ] at g0 g1 g2 g3 gk3
  simp only [e3, e46, e47, List.drop_zero, List.drop_succ_cons, List.take_succ_cons, List.take_zero] at g0 g1 g2 g3
  obtain ⟨id, hi0, _⟩ := Reads.int Try.underlying46 g0
  obtain ⟨src, hi1, _⟩ := Reads.int Try.underlying3 g1
  obtain ⟨dst, hi2, _⟩ := Reads.int Try.underlying3 g2
  obtain ⟨a, m, c, bs, hi3, hb, hm⟩ := read_bytes g3 (fun k h => hk k (hk1 k (gk3 k h)))
  cases hc0
  cases hi0
  cases hi1
  cases hi2
  cases hi3
  exact ⟨⟨kind, id, src, dst, a, m, c, bs⟩, rfl, hb, hm⟩
theorem read_script {cs : List Value} {d : DataW H} (h : Reads enc Try.prog w base spare held 41 cs d) (hk : ∀ k ∈ d.weights Try.prog 41, k ≤ reachBytes) :
    ∃ a c l, cs = [.slice a l.length c] ∧ Script w (.slice a l.length c) l := by
  obtain ⟨a, n, c, els, h1, _, _, h4, h5, _, h7⟩ := Reads.slice Try.underlying41 (size := 5) (by kernel_rfl) (by omega) h
  have hb : ∀ (l : List (List Value × DataW H)), (∀ x ∈ l, ∃ y : OpI, x.1 = y.cells ∧ Bytes w w.heap.size y.a y.m y.c y.bs ∧ y.m ≤ 140737488355328) →
      ∃ ys : List OpI, l.flatMap (·.1) = ys.flatMap OpI.cells ∧ ys.length = l.length ∧ ∀ y ∈ ys, Bytes w w.heap.size y.a y.m y.c y.bs ∧ y.m ≤ 140737488355328 := by
    intro l
    induction l with
    | nil => intro _; exact ⟨[], rfl, rfl, fun y hy => by cases hy⟩
    | cons x l ih =>
      intro hl
      obtain ⟨y, hy, hy2⟩ := hl x List.mem_cons_self
      obtain ⟨ys, h1, h2, h3⟩ := ih (fun z hz => hl z (List.mem_cons_of_mem _ hz))
      refine ⟨y :: ys, by simp [hy, h1], by simp [h2], fun z hz => ?_⟩
      rcases List.mem_cons.1 hz with rfl | hz
      · exact hy2
      · exact h3 z hz
  obtain ⟨ys, hy1, hy2, hy3⟩ := hb els (fun x hx => read_op (h7 x hx).2.1 (fun k hk' => hk k ((h7 x hx).2.2 k hk')))
  have hn : n = ys.length := by rw [hy2, h4]
  subst hn
  exact ⟨a, c, ys, h1, by rw [hy1] at h5; exact h5, hy3⟩
end
set_option maxRecDepth 100000 in
theorem lifted (os : Os) (started : os.Started) (H : Type) (enc : TypeId × Value → H) :
    ReturnsInHanded {} Try.checked os 5 .any (Rows.inboxPlaysSpec.pre6 enc Try.prog Try.f5 Rows.inboxPlaysRow.domain false) (Rows.inboxPlaysSpec.post enc Try.prog Try.f5 false true false false) := by
  refine returnsInHanded_of_change_sized (C := Try.checked) own started (by kernel_rfl) Try.func5
    (ChangeSpec.witness6 (enc := enc) (C := Try.checked) false ⟨#[], #[.int .i64 0, .slice none 0 0], []⟩ 8 (by kernel_rfl) (by kernel_rfl) (by kernel_rfl) (by kernel_rfl)) ?_
  intro W base args ds gs before hval0 hW hcnd hsz _
  have hval : ∀ (j : Nat) t v, Try.f5.params[j]? = some t → args[j]? = some v → Value.okWide Try.prog W .any base t v := hval0
  have hW' := hW
  obtain ⟨p, q, hA0, hV, rfl, hfz, hnd⟩ := hW
  have hA : DataW.TrodAll enc Try.prog W 0 (fun _ => true) true Try.f5.params.toList args.toList ds p := hA0
  rw [Try.params5] at hA hval
  obtain ⟨v0, vs0, d0, ds0, p0, q0, hargs, rfl, rfl, h0, r0⟩ := trodAll_cons hA
  obtain ⟨v1, vs1, d1, ds1, p1, q1, rfl, rfl, rfl, h1, r1⟩ := trodAll_cons r0
  obtain ⟨rfl, rfl, rfl⟩ := trodAll_nil r1
  obtain rfl : args = #[v0, v1] := by cases args; simp_all
  obtain ⟨rfl, rfl⟩ := trodVars_none hV
  obtain ⟨a0, rfl, rfl, rfl, w0⟩ := open_int Try.underlying3 (hval 0 3 v0 rfl rfl) h0
  obtain ⟨sa, sn, sc, rfl⟩ := okWide_slice Try.underlying41 (hval 1 41 v1 rfl rfl)
  have hk : ∀ k ∈ d1.weights Try.prog 41, k ≤ reachBytes := fun k hk => by
    have := List.all_eq_true.1 hsz _ (DataW.weights_mem_each (j := 1) (t := 41) (d := d1) rfl rfl k hk)
    simpa using this
  obtain ⟨a, c, l, hv, hS⟩ := read_script (Reads.of_trod h1) hk
  have hv' : (.slice sa sn sc : Value) = .slice a l.length c := List.head_eq_of_cons_eq hv
  cases hv'
  clear hA0 hval0
  have key : Calls Try.prog 5 #[.int .i64 a0, .slice sa l.length sc] W (TrueBelow W) := by
    by_cases hr : 1 ≤ a0 ∧ a0 ≤ 256
    · exact plays5 W a0 hr sa sc l hS
    · exact plays5n W a0 hr _
  refine key.mono fun e W' ⟨he, hg⟩ => ?_
  subst he
  exact ⟨_, rfl, post_true (tb := 4) laidOut (by kernel_rfl) (by kernel_rfl) Try.underlying4 rfl ⟨rfl, rfl, rfl⟩ hW' hg⟩
theorem over : Rows.inboxPlaysRow.holds Try.pinned (OpenSpec.ofChange Rows.inboxPlaysSpec) :=
  OpenClaim.holds_of_wide 5 Try.f5 rfl rfl rfl rfl rfl rfl rfl ⟨rfl, rfl, rfl, rfl, rfl⟩ rfl rfl rfl rfl rfl (by kernel_rfl) Try.func5 (by kernel_rfl)
    (of_decide_eq_true (by kernel_rfl)) (by unfold Func.isWrapper; rw [if_neg (of_decide_eq_false (by kernel_rfl))]; exact ⟨rfl, rfl⟩)
    (fun os started H enc _ => lifted os started H enc)
/-- ████ THE STATEMENT ████ -/
theorem proved : Rows.InboxPlaysSaid := over
#print axioms proved
end Go.Proofs.Ytekiccbhjnfciaa.inboxPlays
