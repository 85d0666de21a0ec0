/-
  Whatever the guess and the script, DetectPlays returns true: nodes are watched, heard and suspected as the document says at each step.
  No condition: every int64, every script that can be read.
-/
import Derived.Test.YtekiccbhjnfciaaRows
import Derived.Test.YtekiccbhjnfciaaDT5
import Derived.Test.YtekiccbhjnfciaaPost
import Derived.Test.YtekiccbhjnfciaaRead
namespace Go.Proofs.Ytekiccbhjnfciaa.detectPlays
open Go.ChangeShapes Go.WideShapes Go.ChangeAt Go.RowKit
theorem laidOut : laidOutB Try.prog = true := by kernel_rfl
theorem own : ownKnob Try.prog.godebug = none := by kernel_rfl
section
variable {H : Type} {enc : TypeId × Value → H} {w : World} {base : Nat} {spare : Nat → Bool} {held : Bool}
theorem read_op {cs : List Value} {d : DataW H} (h : Reads enc Try.prog w base spare held 39 cs d) : ∃ x : ActI, cs = x.cells := by
  obtain ⟨ds, hd, hl, hdl, hf⟩ := Reads.struct Try.underlying39 h
  have e39 : Try.prog.cellsOf 39 = 4 := by kernel_rfl
  have e2 : Try.prog.cellsOf 2 = 1 := by kernel_rfl
  have e3 : Try.prog.cellsOf 3 = 1 := by kernel_rfl
  have e4 : Try.prog.cellsOf 4 = 1 := by kernel_rfl
  rw [e39] at hl
  obtain ⟨c0, c1, c2, c3, rfl⟩ := list4 hl
  obtain ⟨p0, p1, p2, p3, rfl⟩ := list4 hdl
  obtain ⟨g0, _⟩ := hf 0 _ p0 rfl rfl
  obtain ⟨g1, _⟩ := hf 1 _ p1 rfl rfl
  obtain ⟨g2, _⟩ := hf 2 _ p2 rfl rfl
  obtain ⟨g3, _⟩ := hf 3 _ p3 rfl rfl
  simp only [List.getElem_toArray, List.getElem_cons_zero, List.getElem_cons_succ] at g0 g1 g2 g3
  simp only [e2, e3, e4, List.drop_zero, List.drop_succ_cons, List.take_succ_cons, List.take_zero] at g0 g1 g2 g3
  obtain ⟨kind, hi0, _⟩ := Reads.int Try.underlying3 g0
  obtain ⟨peer, hi1, _⟩ := Reads.int Try.underlying3 g1
  obtain ⟨t, hi2, _⟩ := Reads.int Try.underlying2 g2
  obtain ⟨raw, hi3, _⟩ := Reads.bool Try.underlying4 g3
  cases hi0
  cases hi1
  cases hi2
  cases hi3
  exact ⟨⟨kind, peer, t, raw⟩, rfl⟩
theorem read_script {cs : List Value} {d : DataW H} (h : Reads enc Try.prog w base spare held 25 cs d) :
    ∃ a c l, cs = [.slice a l.length c] ∧ ScriptD w (.slice a l.length c) l := by
  obtain ⟨a, n, c, els, h1, _, _, h4, h5, _, h7⟩ := Reads.slice Try.underlying25 (size := 4) (by kernel_rfl) (by omega) h
  have hb : ∀ (l : List (List Value × DataW H)), (∀ x ∈ l, ∃ y : ActI, x.1 = y.cells) → ∃ ys : List ActI, l.flatMap (·.1) = ys.flatMap ActI.cells ∧ ys.length = l.length := by
    intro l
    induction l with
    | nil => intro _; exact ⟨[], rfl, rfl⟩
    | cons x l ih =>
      intro hl
      obtain ⟨y, hy⟩ := hl x List.mem_cons_self
      obtain ⟨ys, h1, h2⟩ := ih (fun z hz => hl z (List.mem_cons_of_mem _ hz))
      exact ⟨y :: ys, by simp [hy, h1], by simp [h2]⟩
  obtain ⟨ys, hy1, hy2⟩ := hb els (fun x hx => read_op (h7 x hx).2.1)
  have hn : n = ys.length := by rw [hy2, h4]
  subst hn
  exact ⟨a, c, ys, h1, by rw [hy1] at h5; exact h5⟩
end
set_option maxRecDepth 100000 in
theorem lifted (os : Os) (started : os.Started) (H : Type) (enc : TypeId × Value → H) :
    ReturnsInHanded {} Try.checked os 4 .any (Rows.detectPlaysSpec.pre6 enc Try.prog Try.f4 Rows.detectPlaysRow.domain false) (Rows.detectPlaysSpec.post enc Try.prog Try.f4 false true false false) := by
  refine returnsInHanded_of_change_sized (C := Try.checked) own started (by kernel_rfl) Try.func4
    (ChangeSpec.witness6 (enc := enc) (C := Try.checked) false ⟨#[], #[.int .i64 0, .slice none 0 0], []⟩ 8 (by kernel_rfl) (by kernel_rfl) (by kernel_rfl) (by kernel_rfl)) ?_
  intro W base args ds gs before hval0 hW hcnd hsz _
  have hval : ∀ (j : Nat) t v, Try.f4.params[j]? = some t → args[j]? = some v → Value.okWide Try.prog W .any base t v := hval0
  have hW' := hW
  obtain ⟨p, q, hA0, hV, rfl, hfz, hnd⟩ := hW
  have hA : DataW.TrodAll enc Try.prog W 0 (fun _ => true) true Try.f4.params.toList args.toList ds p := hA0
  rw [Try.params4] at hA hval
  obtain ⟨v0, vs0, d0, ds0, p0, q0, hargs, rfl, rfl, h0, r0⟩ := trodAll_cons hA
  obtain ⟨v1, vs1, d1, ds1, p1, q1, rfl, rfl, rfl, h1, r1⟩ := trodAll_cons r0
  obtain ⟨rfl, rfl, rfl⟩ := trodAll_nil r1
  obtain rfl : args = #[v0, v1] := by cases args; simp_all
  obtain ⟨rfl, rfl⟩ := trodVars_none hV
  obtain ⟨a0, rfl, rfl, rfl, w0⟩ := open_int Try.underlying2 (hval 0 2 v0 rfl rfl) h0
  obtain ⟨sa, sn, sc, rfl⟩ := okWide_slice Try.underlying25 (hval 1 25 v1 rfl rfl)
  obtain ⟨a, c, l, hv, hS⟩ := read_script (Reads.of_trod h1)
  have hv' : (.slice sa sn sc : Value) = .slice a l.length c := List.head_eq_of_cons_eq hv
  cases hv'
  clear hA0 hval0
  have key : Calls Try.prog 4 #[.int .i64 a0, .slice sa l.length sc] W (TrueBelowD W) := by
    by_cases hr : 1 ≤ a0 ∧ a0 ≤ 4096
    · exact detect4 W a0 hr sa sc l hS
    · exact detect4n W a0 hr _
  refine key.mono fun e W' ⟨he, hg⟩ => ?_
  subst he
  exact ⟨_, rfl, post_true (tb := 4) laidOut (by kernel_rfl) (by kernel_rfl) Try.underlying4 rfl ⟨rfl, rfl, rfl⟩ hW' hg⟩
theorem over : Rows.detectPlaysRow.holds Try.pinned (OpenSpec.ofChange Rows.detectPlaysSpec) :=
  OpenClaim.holds_of_wide 4 Try.f4 rfl rfl rfl rfl rfl rfl rfl ⟨rfl, rfl, rfl, rfl, rfl⟩ rfl rfl rfl rfl rfl (by kernel_rfl) Try.func4 (by kernel_rfl)
    (of_decide_eq_true (by kernel_rfl)) (by unfold Func.isWrapper; rw [if_neg (of_decide_eq_false (by kernel_rfl))]; exact ⟨rfl, rfl⟩)
    (fun os started H enc _ => lifted os started H enc)
/-- ████ THE STATEMENT ████ -/
theorem proved : Rows.DetectPlaysSaid := over
#print axioms proved
end Go.Proofs.Ytekiccbhjnfciaa.detectPlays
