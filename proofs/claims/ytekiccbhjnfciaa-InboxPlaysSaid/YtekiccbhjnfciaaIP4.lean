/- Steps of the inbox: a packet is taken; how many there are. -/
import Derived.Test.YtekiccbhjnfciaaIP3
namespace Go.Proofs.Ytekiccbhjnfciaa
open Go.RowKit
theorem len19 (w : World) (b : Nat) (room : Int) (a0 : Option Addr) (n cc : Nat) (xs : List Value) (hI : InboxIs w b room (.slice a0 n cc) n xs) :
    Calls Try.prog 19 #[.pointer (some ⟨b, 0, none⟩)] w fun e w' => e = .returned (.int .i64 n) ∧ w = w' := by
  have c1 : w.cell? ⟨b, 1, none⟩ = some (.slice a0 n cc) := hI.1.cell 1
  go_enter Try.func19, Try.ntmps19
  go_wp2
  go_ret
  exact ⟨rfl, rfl⟩
theorem take17n (w : World) (b : Nat) (room : Int) (a0 : Option Addr) (cc : Nat) (xs : List Value) (hI : InboxIs w b room (.slice a0 0 cc) 0 xs) :
    Calls Try.prog 17 #[.pointer (some ⟨b, 0, none⟩)] w fun e w' => e = .returned (.tuple #[.agg #[.int .u64 0, .int .i64 0, .int .i64 0, .slice none 0 0], .bool false]) ∧ Same w w' := by
  have hb := hI.1
  have hlt := hb.lt
  have c1 : w.cell? ⟨b, 1, none⟩ = some (.slice a0 0 cc) := hI.1.cell 1
  go_enter Try.func17, Try.ntmps17
  go_wp2
  exact bodyPost_ret (v := .tuple #[.agg #[.int .u64 0, .int .i64 0, .int .i64 0, .slice none 0 0], .bool false]) (by simp [results, Try.results17, go_sem]) rfl ⟨rfl, (Fr.refl _ _).alloc _⟩
set_option maxRecDepth 100000 in
theorem take17 (w : World) (b : Nat) (room : Int) (a0 : Option Addr) (n cc : Nat) (rest : List Value) (id src dst : Int) (ad : Option Addr) (m cd : Nat) (hn : n ≤ 256)
    (h1 : ∀ u ∈ rest, u.oneCell' = true)
    (hI : InboxIs w b room (.slice a0 (n + 1) cc) (n + 1) ([.int .u64 id, .int .i64 src, .int .i64 dst, .slice ad m cd] ++ rest)) :
    Calls Try.prog 17 #[.pointer (some ⟨b, 0, none⟩)] w fun e w' => e = .returned (.tuple #[.agg #[.int .u64 id, .int .i64 src, .int .i64 dst, .slice ad m cd], .bool true]) ∧
      ∃ a' c', InboxIs w' b room (.slice a' n c') n rest ∧ Fr (fun k => k = b ∨ (Value.slice a0 (n + 1) cc).ownBlock = some k) w w' ∧
        (∀ g, (Value.slice a' n c').ownBlock = some g → (Value.slice a0 (n + 1) cc).ownBlock = some g ∨ w.heap.size ≤ g) := by
  have hb := hI.1
  have ho := hI.2
  have hlt := hb.lt
  have nb : (Value.slice a0 (n + 1) cc).ownBlock ≠ some b := ho.ne_blk hb (by decide)
  obtain ⟨g, o, rfl⟩ : ∃ g o, a0 = some ⟨g, o, none⟩ := by
    rcases ho.2 with ⟨h, _⟩ | ⟨g, o, cap, cur, h, _⟩
    · cases h
    · cases h; exact ⟨g, o, rfl⟩
  have hcell := ho.cells rfl
  simp only [add_at] at hcell
  have c0 : w.cell? ⟨g, o, none⟩ = some (.int .u64 id) := hcell 0 _ rfl
  have e1 : w.cell? ⟨g, o + 1, none⟩ = some (.int .i64 src) := hcell 1 _ rfl
  have e2 : w.cell? ⟨g, o + 2, none⟩ = some (.int .i64 dst) := hcell 2 _ rfl
  have e3 : w.cell? ⟨g, o + 3, none⟩ = some (.slice ad m cd) := hcell 3 _ rfl
  have hgl : g < w.heap.size := ho.lt rfl
  have c1 : w.cell? ⟨b, 1, none⟩ = some (.slice (some ⟨g, o, none⟩) (n + 1) cc) := hb.cell 1
  clear hcell
  have hb2 := (hb.alloc (.cells #[.int .u64 0, .int .i64 0, .int .i64 0, .slice none 0 0] 49)).alloc (.cells #[.int .u64 id, .int .i64 src, .int .i64 dst, .slice ad m cd] 49)
  have ho2 := (ho.alloc (.cells #[.int .u64 0, .int .i64 0, .int .i64 0, .slice none 0 0] 49)).alloc (.cells #[.int .u64 id, .int .i64 src, .int .i64 dst, .slice ad m cd] 49)
  have hx2 := (Blk.new w 49 #[.int .u64 0, .int .i64 0, .int .i64 0, .slice none 0 0]).alloc (.cells #[.int .u64 id, .int .i64 src, .int .i64 dst, .slice ad m cd] 49)
  have hy2 := Blk.new (w.alloc (.cells #[.int .u64 0, .int .i64 0, .int .i64 0, .slice none 0 0] 49)) 49 #[.int .u64 id, .int .i64 src, .int .i64 dst, .slice ad m cd]
  have hs2 : Same w ((w.alloc (.cells #[.int .u64 0, .int .i64 0, .int .i64 0, .slice none 0 0] 49)).alloc (.cells #[.int .u64 id, .int .i64 src, .int .i64 dst, .slice ad m cd] 49)) := ((Fr.refl _ _).alloc _).alloc _
  rw [World.size_alloc] at hy2
  go_enter Try.func17, Try.ntmps17
  go_wp2_with fail
  clear c0 e1 e2 e3 c1
  generalize (w.alloc (.cells #[.int .u64 0, .int .i64 0, .int .i64 0, .slice none 0 0] 49)).alloc (.cells #[.int .u64 id, .int .i64 src, .int .i64 dst, .slice ad m cd] 49) = W at *
  obtain ⟨y, hye⟩ : ∃ y, y = w.heap.size + 1 := ⟨_, rfl⟩
  obtain ⟨x, hxe⟩ : ∃ x, x = w.heap.size := ⟨_, rfl⟩
  rw [← hye] at hy2 ⊢
  rw [← hxe] at hx2 hgl ⊢
  have hxy : x ≠ y := by omega
  have hgy : g ≠ y := by omega
  have hgx : g ≠ x := by omega
  have hbx : b ≠ x := Blk.ne_ hb2 hx2 (by decide)
  have hby : b ≠ y := Blk.ne_ hb2 hy2 (by decide)
  have hbg : g ≠ b := fun e => nb (by rw [← e]; rfl)
  have hxl : w.heap.size ≤ x := by omega
  clear hxe hye
  refine (delete55 W _ n cc _ ho2 (fun u hu => by
    rcases List.mem_append.1 hu with h | h
    · simp only [List.mem_cons, List.not_mem_nil, or_false] at h
      rcases h with rfl | rfl | rfl | rfl <;> rfl
    · exact h1 u h) hn).mono ?_
  rintro e w3 ⟨a', c', rfl, hown3, hf3, hg3⟩
  have hb3 := Blk.fr (S := fun k => (Value.slice (some ⟨g, o, none⟩) (n + 1) cc).ownBlock = some k) hb2 hf3 nb
  have hx3 := Blk.fr (S := fun k => (Value.slice (some ⟨g, o, none⟩) (n + 1) cc).ownBlock = some k) hx2 hf3 (fun h => hgx (by simpa [Value.ownBlock] using h))
  have hy3 := Blk.fr (S := fun k => (Value.slice (some ⟨g, o, none⟩) (n + 1) cc).ownBlock = some k) hy2 hf3 (fun h => hgy (by simpa [Value.ownBlock] using h))
  have d1 : w3.cell? ⟨b, 1, none⟩ = some (.slice (some ⟨g, o, none⟩) (n + 1) cc) := hb3.cell 1
  have f1 : w3.frozen? ⟨b, 1, none⟩ = false := hb3.frozen 1
  have hy4 := hy3.far (p := ⟨b, 1, none⟩) (fun e => hby e.symm) (.slice a' n c')
  have hx4 := hx3.far (p := ⟨b, 1, none⟩) (fun e => hbx e.symm) (.slice a' n c')
  have y0 := hy4.cell 0
  have y1 := hy4.cell 1
  have y2 := hy4.cell 2
  have y3 := hy4.cell 3
  have x0 := hx4.cell 0
  have x1 := hx4.cell 1
  have x2 := hx4.cell 2
  have x3 := hx4.cell 3
  have z0 := hx4.frozen 0
  have z1 := hx4.frozen 1
  have z2 := hx4.frozen 2
  have z3 := hx4.frozen 3
  simp only [List.getElem?_toArray, List.getElem?_cons_zero, List.getElem?_cons_succ] at y0 y1 y2 y3 x0 x1 x2 x3
  go_wp2_with fail
  have hx5 := (((hx4.set_ 0 (.int .u64 id)).set_ 1 (.int .i64 src)).set_ 2 (.int .i64 dst)).set_ 3 (.slice ad m cd)
  have q0 := hx5.cell 0
  have q1 := hx5.cell 1
  have q2 := hx5.cell 2
  have q3 := hx5.cell 3
  simp only [List.setIfInBounds_toArray, List.set_cons_zero, List.set_cons_succ, List.getElem?_toArray, List.getElem?_cons_zero, List.getElem?_cons_succ] at q0 q1 q2 q3
  have hb5 := ((((hb3.set_ 1 (.slice a' n c')).far (p := ⟨x, 0, none⟩) hbx (.int .u64 id)).far (p := ⟨x, 1, none⟩) hbx (.int .i64 src)).far (p := ⟨x, 2, none⟩) hbx (.int .i64 dst)).far (p := ⟨x, 3, none⟩) hbx (.slice ad m cd)
  have nb3 : (Value.slice a' n c').ownBlock ≠ some b := hown3.ne_blk hb3 (by decide)
  have nx3 : (Value.slice a' n c').ownBlock ≠ some x := fun h => by
    rcases hg3 x h with h | h
    · exact hgx (by simpa [Value.ownBlock] using h)
    · have := hx2.lt
      omega
  have ho5 := ((((hown3.setCell (p := ⟨b, 1, none⟩) nb3 (.slice a' n c')).setCell (p := ⟨x, 0, none⟩) nx3 (.int .u64 id)).setCell (p := ⟨x, 1, none⟩) nx3 (.int .i64 src)).setCell (p := ⟨x, 2, none⟩) nx3 (.int .i64 dst)).setCell (p := ⟨x, 3, none⟩) nx3 (.slice ad m cd)
  have hf : Fr (fun k => k = b ∨ (Value.slice (some ⟨g, o, none⟩) (n + 1) cc).ownBlock = some k) w w3 := Fr.trans' hs2 hf3 (fun _ h => h.elim) (fun _ _ h => .inr h)
  have hf5 := ((((hf.setCell (p := ⟨b, 1, none⟩) (.inl (.inl rfl)) (.slice a' n c')).setCell (p := ⟨x, 0, none⟩) (.inr hxl) (.int .u64 id)).setCell (p := ⟨x, 1, none⟩) (.inr hxl) (.int .i64 src)).setCell (p := ⟨x, 2, none⟩) (.inr hxl) (.int .i64 dst)).setCell (p := ⟨x, 3, none⟩) (.inr hxl) (.slice ad m cd)
  exact bodyPost_ret (v := .tuple #[.agg #[.int .u64 id, .int .i64 src, .int .i64 dst, .slice ad m cd], .bool true]) (by simp [results, Try.results17, go_sem, q0, q1, q2, q3]) rfl
    ⟨rfl, a', c', ⟨hb5, by simpa using ho5⟩, hf5, fun g' h => (hg3 g' h).imp (fun h => h) (fun h => Nat.le_trans hs2.size h)⟩
end Go.Proofs.Ytekiccbhjnfciaa
