/- Steps of the inbox: a packet is put. -/
import Derived.Test.YtekiccbhjnfciaaIP1
namespace Go.Proofs.Ytekiccbhjnfciaa
open Go.RowKit
theorem info49 : (Try.prog.info? 49).map (fun i => (i.zero, i.size, i.bytes)) = some (some (.agg #[.int .u64 0, .int .i64 0, .int .i64 0, .slice none 0 0]), 4, 48) := by kernel_rfl

theorem new15 (room : Int) (h : 1 ≤ room ∧ room ≤ 256) (w : World) : Calls Try.prog 15 #[.int .i64 room] w fun e w' =>
    e = .returned (.tuple #[.pointer (some ⟨w.heap.size, 0, none⟩), .int .i64 0]) ∧ w.alloc (.cells #[.int .i64 room, .slice none 0 0] 114) = w' := by
  obtain ⟨h1, h2⟩ := h
  go_enter Try.func15, Try.ntmps15
  go_wp2
  go_ret2
  exact ⟨rfl, rfl⟩
theorem new15f (room : Int) (h : ¬ (1 ≤ room ∧ room ≤ 256)) (w : World) : Calls Try.prog 15 #[.int .i64 room] w fun e w' => e = .returned (.tuple #[.pointer none, .int .i64 1]) ∧ w = w' := by
  go_enter Try.func15, Try.ntmps15
  go_wp2
  all_goals go_ret2
  all_goals first | exact ⟨rfl, rfl⟩ | (exfalso; omega)

/-- what an inbox is in memory: its room, its packets' cells -/
def InboxIs (w : World) (b : Nat) (room : Int) (lv : Value) (n : Nat) (xs : List Value) : Prop :=
  Blk w b 114 #[.int .i64 room, lv] ∧ OwnS w 49 4 lv n xs
theorem InboxIs.slice {w : World} {b : Nat} {room : Int} {lv : Value} {n : Nat} {xs : List Value} (h : InboxIs w b room lv n xs) : ∃ a c, lv = .slice a n c := by
  obtain ⟨a, c, h, _⟩ := h.2.form
  exact ⟨a, c, h⟩

/-- the box of a packet that comes in by value -/
def pkBox (id src dst : Int) (v : Value) : Array Value := #[.int .u64 id, .int .i64 src, .int .i64 dst, v]
set_option maxRecDepth 100000 in
theorem put16f (w : World) (b : Nat) (room : Int) (a0 : Option Addr) (n c0 : Nat) (xs : List Value) (hI : InboxIs w b room (.slice a0 n c0) n xs) (hr : (n : Int) = room) (id src dst : Int) (a : Option Addr) (m c : Nat) :
    Calls Try.prog 16 #[.pointer (some ⟨b, 0, none⟩), .agg #[.int .u64 id, .int .i64 src, .int .i64 dst, .slice a m c]] w fun e w' => e = .returned (.int .i64 81) ∧ Same w w' := by
  have hr' : ((n : Int) == room) = true := by simpa using hr
  have hb := hI.1.alloc (.cells #[.int .u64 id, .int .i64 src, .int .i64 dst, .slice a m c] 49)
  have hs : Same w (w.alloc (.cells #[.int .u64 id, .int .i64 src, .int .i64 dst, .slice a m c] 49)) := (Fr.refl _ _).alloc _
  clear hr hI
  go_enter Try.func16, Try.ntmps16
  go_wp2_with fail
  generalize w.alloc (.cells #[.int .u64 id, .int .i64 src, .int .i64 dst, .slice a m c] 49) = w1 at hb hs ⊢
  have c0 : w1.cell? ⟨b, 0, none⟩ = some (.int .i64 room) := hb.cell 0
  have c1 : w1.cell? ⟨b, 1, none⟩ = some (.slice a0 n _) := hb.cell 1
  go_still (by kernel_rfl)
  go_wp2
  go_ret
  exact ⟨rfl, hs.drew⟩

set_option maxRecDepth 100000 in
theorem put16 (w : World) (b : Nat) (room : Int) (a0 : Option Addr) (n cc : Nat) (xs : List Value) (hI : InboxIs w b room (.slice a0 n cc) n xs) (hr : (n : Int) < room) (hn : n ≤ 256) (id src dst : Int) (a : Option Addr) (m c : Nat)
    (bs : List Value) (B : Nat) (hB : B ≤ w.heap.size) (hrd : RdS w B 1 (.slice a m c) m bs) (h1 : ∀ u ∈ bs, u.oneCell' = true) (hm : m ≤ 140737488355328) :
    Calls Try.prog 16 #[.pointer (some ⟨b, 0, none⟩), .agg #[.int .u64 id, .int .i64 src, .int .i64 dst, .slice a m c]] w fun e w' => e = .returned (.int .i64 0) ∧ ∃ a' c' ad cd,
      InboxIs w' b room (.slice a' (n + 1) c') (n + 1) (xs ++ [.int .u64 id, .int .i64 src, .int .i64 dst, .slice ad m cd]) ∧ OwnS w' 5 1 (.slice ad m cd) m bs ∧
      (∀ g, (Value.slice ad m cd).ownBlock = some g → w.heap.size ≤ g) ∧ Fr (fun k => k = b ∨ (Value.slice a0 n cc).ownBlock = some k) w w' ∧
      (∀ g, (Value.slice a' (n + 1) c').ownBlock = some g → (Value.slice a0 n cc).ownBlock = some g ∨ w.heap.size ≤ g) := by
  obtain ⟨i0, hi, hz0, hz1, hz2⟩ := info_parts info49
  have hr' : ((n : Int) == room) = false := by simp; omega
  have hb := hI.1.alloc (.cells #[.int .u64 id, .int .i64 src, .int .i64 dst, .slice a m c] 49)
  have ho := hI.2.alloc (.cells #[.int .u64 id, .int .i64 src, .int .i64 dst, .slice a m c] 49)
  have hx : Blk _ w.heap.size 49 _ := Blk.new w 49 #[.int .u64 id, .int .i64 src, .int .i64 dst, .slice a m c]
  have hs : Same w (w.alloc (.cells #[.int .u64 id, .int .i64 src, .int .i64 dst, .slice a m c] 49)) := (Fr.refl _ _).alloc _
  have hrd1 := hrd.alloc hB (.cells #[.int .u64 id, .int .i64 src, .int .i64 dst, .slice a m c] 49)
  have hB1 : B ≤ (w.alloc (.cells #[.int .u64 id, .int .i64 src, .int .i64 dst, .slice a m c] 49)).heap.size := by simp; omega
  have hx0 : w.heap.size = w.heap.size := rfl
  have hrow : ∀ g, (Value.slice a0 n cc).ownBlock = some g → g < w.heap.size := fun g hg => hI.2.lt hg
  have nb : (Value.slice a0 n cc).ownBlock ≠ some b := hI.2.ne_blk hI.1 (by decide)
  have hbw := hI.1.lt
  clear hr hI hrd
  go_enter Try.func16, Try.ntmps16
  go_wp2_with fail
  generalize w.alloc (.cells #[.int .u64 id, .int .i64 src, .int .i64 dst, .slice a m c] 49) = w1 at hb hs ho hx hrd1 hB1 ⊢
  obtain ⟨x, hxe⟩ : ∃ x, x = w.heap.size := ⟨_, rfl⟩
  rw [← hxe] at hx ⊢
  have hxn : ¬ x < w.heap.size := by omega
  clear hxe hx0
  have c0 : w1.cell? ⟨b, 0, none⟩ = some (.int .i64 room) := hb.cell 0
  have c1 : w1.cell? ⟨b, 1, none⟩ = some (.slice a0 n cc) := hb.cell 1
  go_still (by kernel_rfl)
  have d3 : w1.cell? ⟨x, 3, none⟩ = some (.slice a m c) := hx.cell 3
  have g3 : w1.frozen? ⟨x, 3, none⟩ = false := hx.frozen 3
  go_wp2_with fail
  refine (clone54 _ B a m c bs hrd1.drew hB1 h1 hm).mono ?_
  rintro e w2 ⟨ad, cd, rfl, hcl, hs2, hfr⟩
  have hs2' := Same.undrew hs2
  have hb2 := hb.same hs2'
  have ho2 := ho.same hs2'
  have hx2 := hx.same hs2'
  have hs3 := hs.trans hs2'
  have hfr1 : ∀ g, (Value.slice ad m cd).ownBlock = some g → w1.heap.size ≤ g := hfr
  have hxl := hx.lt
  clear c0 c1 d3 g3 hs2 hs2' hb ho hx hrd1 hfr
  have d0 : w2.cell? ⟨x, 0, none⟩ = some (.int .u64 id) := hx2.cell 0
  have d1 : w2.cell? ⟨x, 1, none⟩ = some (.int .i64 src) := hx2.cell 1
  have d2 : w2.cell? ⟨x, 2, none⟩ = some (.int .i64 dst) := hx2.cell 2
  have d3 : w2.cell? ⟨x, 3, none⟩ = some (.slice a m c) := hx2.cell 3
  have g3 : w2.frozen? ⟨x, 3, none⟩ = false := hx2.frozen 3
  go_wp2_with fail
  have nx : (Value.slice a0 n cc).ownBlock ≠ some x := fun h => hxn (hrow x h)
  have hxb : x ≠ b := Blk.ne_ hx2 hb2 (by decide)
  have hx3 := hx2.set_ 3 (.slice ad m cd)
  have hb3 := hb2.far (p := ⟨x, 3, none⟩) (fun e => hxb e.symm) (.slice ad m cd)
  have ho3 : OwnS (w2.setCell ⟨x, 3, none⟩ (.slice ad m cd)) 49 4 _ n xs := ho2.setCell (p := ⟨x, 3, none⟩) nx (.slice ad m cd)
  have hc3 : OwnS (w2.setCell ⟨x, 3, none⟩ (.slice ad m cd)) 5 1 _ m bs := hcl.setCell (p := ⟨x, 3, none⟩) (hcl.ne_blk hx2 (by decide)) (.slice ad m cd)
  have hs4 : Same w (w2.setCell ⟨x, 3, none⟩ (.slice ad m cd)) := Fr.setCell (S := fun _ => False) hs3 (.inr (by show w.heap.size ≤ x; omega)) (.slice ad m cd)
  clear d0 d1 d2 d3 g3 hb2 ho2 hx2 hcl hs3
  generalize w2.setCell ⟨x, 3, none⟩ (.slice ad m cd) = w3 at hx3 hb3 ho3 hc3 hs4 ⊢
  have d0 : w3.cell? ⟨x, 0, none⟩ = some (.int .u64 id) := hx3.cell 0
  have d1 : w3.cell? ⟨x, 1, none⟩ = some (.int .i64 src) := hx3.cell 1
  have d2 : w3.cell? ⟨x, 2, none⟩ = some (.int .i64 dst) := hx3.cell 2
  have d3 : w3.cell? ⟨x, 3, none⟩ = some (.slice ad m cd) := hx3.cell 3
  have c1 : w3.cell? ⟨b, 1, none⟩ = some (.slice a0 n cc) := hb3.cell 1
  have g1 : w3.frozen? ⟨b, 1, none⟩ = false := hb3.frozen 1
  have HX := Lib.hid hx3
  have HB := Lib.hid hb3
  have hlb := hb3.lt
  have hlx := hx3.lt
  have fz : ∀ o, (w3.alloc o).drew.frozen? ⟨b, 1, none⟩ = false := fun o => (World.frozen?_alloc_past (w := w3) o b 1 hlb).trans g1
  have cz : ∀ o, (w3.alloc o).drew.cell? ⟨b, 1, none⟩ = some (.slice a0 n cc) := fun o => (World.cell?_alloc_past (w := w3) o b 1 hlb).trans c1
  clear hx3 hb3
  go_region_law (refine step_append_S rfl _ _ _ (by rfl) 49 i0 _ 4 48 Try.underlying45 hi hz0 hz1 hz2 rfl (OwnS.alloc ho3 _) (by rfl) (RdS.new' (by first | rfl | simp) 49 4 1 [.int .u64 id, .int .i64 src, .int .i64 dst, .slice ad m cd] rfl 1 (Nat.le_refl _)) (by rfl) (by simp [Value.oneCell']) (by simp only [maxLen]; omega) (by omega) ?_; intro v4 w4 hown4 hf4 hv4 hn4; obtain ⟨a4, c4, rfl, -⟩ := hown4.form; have q1 : w4.cell? ⟨b, 1, none⟩ = some (.slice a0 n cc) := (Fr.cell hf4 (by simp; omega) nb).trans (cz _); have q2 : w4.frozen? ⟨b, 1, none⟩ = false := (Fr.frozen hf4 (by simp; omega) nb).trans (fz _))
  go_wp2
  all_goals go_ret
  all_goals
    have hb4 := Blk.fr (S := fun k => (Value.slice a0 n cc).ownBlock = some k) (((HB.out).alloc _).drew) hf4 nb
    have hbo : (Value.slice a4 (n + 1) c4).ownBlock ≠ some b := hown4.ne_blk hb4 (by decide)
    refine ⟨rfl, a4, c4, ad, cd, ⟨hb4.set_ 1 (.slice a4 (n + 1) c4), hown4.setCell (p := ⟨b, 1, none⟩) hbo _⟩, ?_, fun g hg => ?_, ?_, fun g hg => ?_⟩
    · exact OwnS.setCell (p := ⟨b, 1, none⟩) (OwnS.fr (((hc3.alloc _).drew)) hf4 (fun g hg => hc3.ne_ ho3 (by decide) hg)) (hc3.ne_blk HB.out (by decide)) _
    · exact Nat.le_trans hs.size (hfr1 g hg)
    · exact Fr.setCell (Fr.trans' (T := fun k => k = b ∨ (Value.slice a0 n cc).ownBlock = some k) ((Fr.alloc (S := fun _ => False) hs4 _).drew) hf4 (fun _ h => h.elim) (fun _ _ h => .inr h)) (.inl (.inl rfl)) _
    · have hg' : (Value.slice a4 (n + 1) c4).ownBlock = some g := hg
      rcases hv4 with h | h
      · rw [hg'] at h
        exact .inl h.symm
      · rw [hg'] at h
        have h5 : g = w3.heap.size + 1 := by simpa using h
        have := hs4.size
        exact .inr (by omega)
end Go.Proofs.Ytekiccbhjnfciaa
