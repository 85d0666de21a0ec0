/- Two packets that are alike are told so. -/
import Derived.Test.YtekiccbhjnfciaaIP4
namespace Go.Proofs.Ytekiccbhjnfciaa
open Go.RowKit
/-- a slice of bytes that reads as bs -/
def Bytes (w : World) (B : Nat) (a : Option Addr) (m c : Nat) (bs : List Int) : Prop := RdS w B 1 (.slice a m c) m (bs.map (Value.int .u8))
theorem Bytes.at_ {w : World} {B : Nat} {a : Option Addr} {m c : Nat} {bs : List Int} (h : Bytes w B a m c bs) {k : Nat} (hk : k < m) :
    ∃ g o x, a = some ⟨g, o, none⟩ ∧ g < B ∧ bs[k]? = some x ∧ w.cell? ⟨g, o + k, none⟩ = some (.int .u8 x) := by
  obtain ⟨h1, a', cap, he, hc, h3⟩ := h
  cases he
  obtain ⟨g, o, rfl, hg, h4⟩ := h3 (by omega)
  have hl : bs.length = m := by simpa using h1
  have hx : bs[k]? = some bs[k] := List.getElem?_eq_getElem (by omega)
  exact ⟨g, o, bs[k], rfl, hg, hx, h4 k _ (by rw [List.getElem?_map, hx]; rfl)⟩
set_option maxRecDepth 100000 in
theorem same18 (w : World) (id src dst : Int) (a1 a2 : Option Addr) (m c1 c2 : Nat) (bs : List Int) (hm : m ≤ 140737488355328) (h1 : Bytes w w.heap.size a1 m c1 bs) (h2 : Bytes w w.heap.size a2 m c2 bs) :
    Calls Try.prog 18 #[.agg #[.int .u64 id, .int .i64 src, .int .i64 dst, .slice a1 m c1], .agg #[.int .u64 id, .int .i64 src, .int .i64 dst, .slice a2 m c2]] w fun e w' => e = .returned (.bool true) ∧ Same w w' := by
  have hx := (Blk.new w 49 #[.int .u64 id, .int .i64 src, .int .i64 dst, .slice a1 m c1]).alloc (.cells #[.int .u64 id, .int .i64 src, .int .i64 dst, .slice a2 m c2] 49)
  have hy := Blk.new (w.alloc (.cells #[.int .u64 id, .int .i64 src, .int .i64 dst, .slice a1 m c1] 49)) 49 #[.int .u64 id, .int .i64 src, .int .i64 dst, .slice a2 m c2]
  have hs : Same w ((w.alloc (.cells #[.int .u64 id, .int .i64 src, .int .i64 dst, .slice a1 m c1] 49)).alloc (.cells #[.int .u64 id, .int .i64 src, .int .i64 dst, .slice a2 m c2] 49)) := ((Fr.refl _ _).alloc _).alloc _
  rw [World.size_alloc] at hy
  go_enter Try.func18, Try.ntmps18
  go_wp2_with fail
  generalize (w.alloc (.cells #[.int .u64 id, .int .i64 src, .int .i64 dst, .slice a1 m c1] 49)).alloc (.cells #[.int .u64 id, .int .i64 src, .int .i64 dst, .slice a2 m c2] 49) = W at *
  have h1' : Bytes W w.heap.size a1 m c1 bs := RdS.same h1 hs (Nat.le_refl _)
  have h2' : Bytes W w.heap.size a2 m c2 bs := RdS.same h2 hs (Nat.le_refl _)
  have hBW : w.heap.size ≤ W.heap.size := hs.size
  generalize hX : w.heap.size + 1 = y at *
  generalize w.heap.size = B at *
  go_loopw [5] (fun i wr => ∃ k : Nat, k ≤ m ∧ i = .int .i64 k ∧ Same W wr) (fun i _ => m - (intOf i).toNat)
  case atStart => exact ⟨0, Nat.zero_le _, rfl, Same.refl _⟩
  case round =>
    obtain ⟨k, hk, rfl, hsr⟩ := hrel
    have x3 : wr.cell? ⟨B, 3, none⟩ = some (.slice a1 m c1) := (hx.same hsr).cell 3
    have y3 : wr.cell? ⟨y, 3, none⟩ = some (.slice a2 m c2) := (hy.same hsr).cell 3
    by_cases hlt : k < m
    · obtain ⟨g1, o1, x, rfl, _, hx1, hc1⟩ := Bytes.at_ (RdS.same h1' hsr hBW) hlt
      obtain ⟨g2, o2, x2, rfl, _, hx2, hc2⟩ := Bytes.at_ (RdS.same h2' hsr hBW) hlt
      rw [hx1] at hx2
      cases hx2
      clear hx1 hX
      go_wp2_with fail
      go_still (by kernel_rfl)
      go_wp2
      go_roundw
      case rel => exact ⟨k + 1, by omega, by go_num, hsr.drew⟩
      case measure => simp [intOf]; omega
    · go_wp2
      go_ret
      exact ⟨rfl, hs.trans hsr⟩
end Go.Proofs.Ytekiccbhjnfciaa
