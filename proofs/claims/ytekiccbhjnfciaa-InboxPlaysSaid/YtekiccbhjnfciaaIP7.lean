/- Any script of an inbox: the walk of the statement's function. -/
import Derived.Test.YtekiccbhjnfciaaIP6
namespace Go.Proofs.Ytekiccbhjnfciaa
open Go.RowKit
theorem St.take {w wr w4 w6 : World} {b : Nat} {room : Int} {t : Tw} {L : List Tw} {a0 : Option Addr} {cc : Nat} {la : Option Addr} {lc : Nat} (h : St w wr b room (t :: L) a0 cc la lc) {a' : Option Addr} {c' : Nat} {la' : Option Addr} {lc' : Nat}
    (hI : InboxIs w4 b room (.slice a' L.length c') L.length (L.flatMap Tw.one)) (hf4 : Fr (fun k => k = b ∨ (Value.slice a0 (L.length + 1) cc).ownBlock = some k) wr w4)
    (hr4 : ∀ g, (Value.slice a' L.length c').ownBlock = some g → (Value.slice a0 (L.length + 1) cc).ownBlock = some g ∨ wr.heap.size ≤ g)
    (hl : OwnS w4 49 4 (.slice la' L.length lc') L.length (L.flatMap Tw.two)) (hll : ∀ g, (Value.slice la' L.length lc').ownBlock = some g → (Value.slice la (L.length + 1) lc).ownBlock = some g) (hs : Same w4 w6) :
    St w w6 b room L a' c' la' lc' := by
  have hsz := h.below.size
  have hnw : ∀ k, k < w.heap.size → ¬ (k = b ∨ (Value.slice a0 (L.length + 1) cc).ownBlock = some k) := fun k hk hh => by
    rcases hh with rfl | hh
    · have := h.new
      omega
    · have := h.row k hh
      omega
  refine St.same (wr := w4) ?_ hs
  constructor
  · exact h.below.trans (Fr.below hf4 hsz hnw)
  · exact h.new
  · exact hI
  · intro g hg
    rcases hr4 g hg with h1 | h1
    · exact h.row g h1
    · omega
  · exact hl
  · exact fun g hg => h.row2 g (hll g hg)
  · intro g hg hh
    rcases hr4 g hg with h1 | h1
    · exact h.apart g h1 (hll g hh)
    · have := h.list.lt (hll g hh)
      omega
  · intro s hs
    have hm := h.tw s (List.mem_cons_of_mem _ hs)
    exact hm.fr hf4 hsz hnw (fun g hg hh => by
      rcases hh with rfl | hh
      · exact hm.own.ne_blk h.inbox.1 (by decide) hg
      · exact hm.own.ne_ h.inbox.2 (by decide) hg hh)
  · have := h.most
    simp only [List.length_cons] at this
    omega
def TrueBelow (w : World) (e : Ending) (w' : World) : Prop := e = .returned (.bool true) ∧ Below w.heap.size w w'
set_option maxRecDepth 100000 in
theorem plays5n (w : World) (room : Int) (hroom : ¬ (1 ≤ room ∧ room ≤ 256)) (v : Value) : Calls Try.prog 5 #[.int .i64 room, v] w (TrueBelow w) := by
  by_cases h1 : 1 ≤ room
  · have h2 : 256 < room := by omega
    have hd : decide (room ≤ 256) = false := by simp; omega
    clear hroom
    go_enter Try.func5, Try.ntmps5
    go_wp2_with fail
    refine (awake8 _).mono ?_
    rintro e w1 ⟨rfl, hs⟩
    go_wp2_with fail
    refine (new15f _ (by omega) _).mono ?_
    rintro e w' ⟨rfl, rfl⟩
    go_wp2
    go_ret
    exact ⟨rfl, hs.below⟩
  · have h2 : room < 1 := by omega
    clear hroom h1
    go_enter Try.func5, Try.ntmps5
    go_wp2_with fail
    refine (awake8 _).mono ?_
    rintro e w1 ⟨rfl, hs⟩
    go_wp2_with fail
    refine (new15f _ (by omega) _).mono ?_
    rintro e w' ⟨rfl, rfl⟩
    go_wp2
    go_ret
    exact ⟨rfl, hs.below⟩
set_option maxRecDepth 100000 in
set_option maxHeartbeats 8000000 in
theorem plays5 (w : World) (room : Int) (hroom : 1 ≤ room ∧ room ≤ 256) (sa : Option Addr) (sc : Nat) (l : List OpI) (hsc : Script w (.slice sa l.length sc) l) :
    Calls Try.prog 5 #[.int .i64 room, .slice sa l.length sc] w (TrueBelow w) := by
  obtain ⟨hr1, hr2⟩ := hroom
  obtain ⟨i5, hi5, hz5, hs5, hb5⟩ := info_parts info5
  obtain ⟨i49, hi49, hz49, hs49, hb49⟩ := info_parts info49
  have HS := Lib.hid hsc
  clear hsc
  go_enter Try.func5, Try.ntmps5
  go_wp2_with fail
  refine (awake8 _).mono ?_
  rintro e w1 ⟨rfl, hs⟩
  go_wp2_with fail
  refine (new15 _ ⟨hr1, hr2⟩ _).mono ?_
  rintro e w2 ⟨rfl, hw2⟩
  have hb2 : Blk w2 w1.heap.size 114 #[.int .i64 room, .slice none 0 0] := by rw [← hw2]; exact Blk.new _ _ _
  have hst : St w w2 w1.heap.size room [] none 0 none 0 := by
    constructor
    · rw [← hw2]
      exact (Same.below hs).alloc hs.size _
    · exact hs.size
    · exact ⟨hb2, OwnS.nil _ _ _⟩
    · intro g hg
      cases hg
    · exact OwnS.nil _ _ _
    · intro g hg
      cases hg
    · intro g hg
      cases hg
    · intro t ht
      cases ht
    · simp
      omega
  obtain ⟨b, hbe⟩ : ∃ b, b = w1.heap.size := ⟨_, rfl⟩
  rw [← hbe] at hst ⊢
  clear hbe hb2 hw2 hs
  go_wp2_with fail
  go_loopw [9, 10] (fun v i wr => ∃ (k : Nat) (L : List Tw) (a0 : Option Addr) (cc : Nat) (la : Option Addr) (lc : Nat), i = .int .i64 k ∧ v = .slice la L.length lc ∧ St w wr b room L a0 cc la lc) (fun _ i _ => 400 - (intOf i).toNat)
  case atStart => exact ⟨0, [], none, 0, none, 0, rfl, rfl, hst⟩
  case round =>
    obtain ⟨wo, rfl⟩ : ∃ wo : World, wo = wr := ⟨_, rfl⟩
    obtain ⟨k, L, a0, cc, la, lc, rfl, rfl, hst⟩ := hrel
    by_cases hlt : k < 400 ∧ k < l.length
    · obtain ⟨h400, hkl⟩ := hlt
      have HST := Lib.hid hst
      obtain ⟨sg, so, c, x, hv, hg, hx, ck, cid, csrc, cdst, cdata, hby, hxm⟩ := HS.out.at_ hst.below hkl
      cases hv
      clear hst
      by_cases hk1 : x.kind = 1
      · have hk1b : (x.kind == 1) = true := by simpa using hk1
        clear hk1
        have hx11 := ((Blk.new wo 49 #[.int .u64 x.id, .int .i64 x.src, .int .i64 x.dst, .slice x.a x.m x.c]).alloc (.cells #[.int .u64 x.id, .int .i64 x.src, .int .i64 x.dst, .slice x.a x.m x.c] 49)).alloc (.cells #[] 5)
        have hx12 := (Blk.new (wo.alloc (.cells #[.int .u64 x.id, .int .i64 x.src, .int .i64 x.dst, .slice x.a x.m x.c] 49)) 49 #[.int .u64 x.id, .int .i64 x.src, .int .i64 x.dst, .slice x.a x.m x.c]).alloc (.cells #[] 5)
        have hown0 : OwnS (((wo.alloc (.cells #[.int .u64 x.id, .int .i64 x.src, .int .i64 x.dst, .slice x.a x.m x.c] 49)).alloc (.cells #[.int .u64 x.id, .int .i64 x.src, .int .i64 x.dst, .slice x.a x.m x.c] 49)).alloc (.cells #[] 5)) 5 1 (.slice (some ⟨wo.heap.size + 1 + 1, 0, none⟩) 0 0) 0 [] :=
          ⟨rfl, .inr ⟨_, 0, 0, #[], rfl, by simpa using heap_alloc_new ((wo.alloc (.cells #[.int .u64 x.id, .int .i64 x.src, .int .i64 x.dst, .slice x.a x.m x.c] 49)).alloc (.cells #[.int .u64 x.id, .int .i64 x.src, .int .i64 x.dst, .slice x.a x.m x.c] 49)) (.cells #[] 5), Nat.le_refl _, by simp, by simp, by simp⟩⟩
        have hsz : w.heap.size ≤ wo.heap.size := HST.out.below.size
        have hrd : RdS (((wo.alloc (.cells #[.int .u64 x.id, .int .i64 x.src, .int .i64 x.dst, .slice x.a x.m x.c] 49)).alloc (.cells #[.int .u64 x.id, .int .i64 x.src, .int .i64 x.dst, .slice x.a x.m x.c] 49)).alloc (.cells #[] 5)) w.heap.size 1 (.slice x.a x.m x.c) x.m (x.bs.map (Value.int .u8)) :=
          ((RdS.alloc hby hsz _).alloc (by simp; omega) _).alloc (by simp; omega) _
        have hone : ∀ u ∈ x.bs.map (Value.int .u8), u.oneCell' = true := fun u hu => by
          obtain ⟨z, _, rfl⟩ := List.mem_map.1 hu
          rfl
        rw [World.size_alloc] at hx12
        go_wp2_with (at_builtin; go_must (refine wpList_append_S rfl (.tmp 77) (.tmp 79) _ rfl 5 i5 _ 1 1 Try.underlying47 hi5 hz5 hs5 hb5 rfl hown0 rfl hrd rfl hone (by simp only [maxLen]; omega) (by omega) ?_); intro v2 w2 hown2 hf2 hv2 hn2; obtain ⟨au, cu, rfl, -⟩ := hown2.form; have hy12 := Blk.fr (S := fun k => (Value.slice (some ⟨wo.heap.size + 1 + 1, 0, none⟩) 0 0).ownBlock = some k) hx12 hf2 (fun h => by simp [Value.ownBlock] at h); have p0 := hy12.cell 0; have p1 := hy12.cell 1; have p2 := hy12.cell 2; have p3 := hy12.cell 3; have g3 := hy12.frozen 3; simp only [List.getElem?_toArray, List.getElem?_cons_zero, List.getElem?_cons_succ] at p0 p1 p2 p3)
        have hsame2 : Same wo w2 := Fr.trans' (S := fun _ => False) ((((Fr.refl _ wo).alloc _).alloc _).alloc _) hf2 (fun _ h => h) (fun i hi h => by
          have : wo.heap.size + 1 + 1 = i := by simpa [Value.ownBlock] using h
          omega)
        have hs3 : Same wo (w2.setCell ⟨wo.heap.size + 1, 3, none⟩ (.slice au x.m cu)) := Fr.setCell (S := fun _ => False) hsame2 (.inr (by show wo.heap.size ≤ wo.heap.size + 1; omega)) _
        have hx11' := Blk.fr (S := fun k => (Value.slice (some ⟨wo.heap.size + 1 + 1, 0, none⟩) 0 0).ownBlock = some k) hx11 hf2 (fun h => by
          have h' : some (wo.heap.size + 1 + 1) = some wo.heap.size := h
          have := Option.some.inj h'
          omega)
        have hx11'' := hx11'.far (p := ⟨wo.heap.size + 1, 3, none⟩) (by show wo.heap.size ≠ wo.heap.size + 1; omega) (.slice au x.m cu)
        have hx12'' := hy12.set_ 3 (.slice au x.m cu)
        simp only [Nat.zero_add, List.nil_append] at hown2 hv2
        have hown2' : OwnS w2 5 1 (.slice au x.m cu) x.m (x.bs.map (Value.int .u8)) := hown2
        have hv2' : ∀ g, (Value.slice au x.m cu).ownBlock = some g → wo.heap.size + 1 < g := fun g hg => by
          rcases hv2 with h | h
          · have h' : some g = some (wo.heap.size + 1 + 1) := hg.symm.trans h
            cases h'
            omega
          · have h' : some g = some _ := hg.symm.trans h
            cases h'
            simp
        have hu3 : OwnS (w2.setCell ⟨wo.heap.size + 1, 3, none⟩ (.slice au x.m cu)) 5 1 (.slice au x.m cu) x.m (x.bs.map (Value.int .u8)) := hown2'.setCell (p := ⟨wo.heap.size + 1, 3, none⟩) (fun h => by
          have h6 : wo.heap.size + 1 < wo.heap.size + 1 := hv2' _ h
          omega) _
        clear hx11 hx12 hown0 hrd hown2 hown2' hf2 hv2 hn2 hy12 p0 p1 p2 p3 g3 hsame2 hx11'
        generalize w2.setCell ⟨wo.heap.size + 1, 3, none⟩ (.slice au x.m cu) = w3 at *
        have HST3 := Lib.hid (HST.out.same hs3)
        have hby3 : Bytes w3 w.heap.size x.a x.m x.c x.bs := RdS.same hby hs3 hsz
        by_cases hfull : (L.length : Int) = room
        · refine (put16f w3 b room a0 L.length cc _ HST3.out.inbox hfull x.id x.src x.dst au x.m cu).mono ?_
          rintro e w4 ⟨rfl, hs4⟩
          have hy12 := hx12''.same hs4
          have hu4 : OwnS w4 5 1 (.slice au x.m cu) x.m (x.bs.map (Value.int .u8)) := hu3.same hs4
          have HST4 := Lib.hid (HST3.out.same hs4)
          clear hx11'' hx12''
          have hun : ∀ g, (Value.slice au x.m cu).ownBlock = some g → wo.heap.size ≤ g := fun g hg => by have := hv2' g hg; omega
          generalize wo.heap.size + 1 = y12 at hy12 ⊢
          simp only [List.setIfInBounds_toArray, List.set_cons_zero, List.set_cons_succ] at hy12
          have hk2b : (x.kind == 2) = false := by
            have : x.kind = 1 := by simpa using hk1b
            rw [this]; rfl
          go_wp2_with fail
          go_loopw [14] (fun j wx => ∃ (q : Nat) (zs : List Value), q ≤ x.m ∧ j = .int .i64 q ∧ OwnS wx 5 1 (.slice au x.m cu) x.m zs ∧ Fr (fun k => (Value.slice au x.m cu).ownBlock = some k) w4 wx) (fun j _ => x.m - (intOf j).toNat)
          case atStart => exact ⟨0, _, Nat.zero_le _, rfl, hu4, Fr.refl _ _⟩
          case round =>
            obtain ⟨q, zs, hq, rfl, hux, hfx⟩ := hrel
            have hz12 := Blk.fr (S := fun k => (Value.slice au x.m cu).ownBlock = some k) hy12 hfx (hu4.ne_blk hy12 (by decide))
            have t3 : wr.cell? ⟨y12, 3, none⟩ = some (.slice au x.m cu) := hz12.cell 3
            by_cases hqm : q < x.m
            · obtain ⟨gu, ou, rfl⟩ : ∃ g o, au = some ⟨g, o, none⟩ := by
                rcases hux.2 with ⟨h, h0⟩ | ⟨g, o, cap, cur, h, _⟩
                · omega
                · cases h; exact ⟨g, o, rfl⟩
              have hzl : zs.length = x.m := by simpa using hux.1
              have hcu : ∃ uv, wr.cell? ⟨gu, ou + q, none⟩ = some uv := by
                have := hux.cells rfl q _ (List.getElem?_eq_getElem (by omega))
                rw [add_at] at this
                exact ⟨_, this⟩
              obtain ⟨uv, hcu⟩ := hcu
              have hfu : wr.frozen? ⟨gu, ou + q, none⟩ = false := hux.frozen _
              go_wp2
              go_roundw
              case rel => exact ⟨q + 1, _, by omega, by go_num, hux.store q _, Fr.setCell (p := ⟨gu, ou + q, none⟩) hfx (.inl rfl) _⟩
              case measure => simp [intOf]; omega
            · have hsr : Same wo wr := Fr.trans' (T := fun _ => False) (hs3.trans hs4) hfx (fun _ h => h) (fun i hi h => by have := hun i h; omega)
              have HST6 := Lib.hid (HST.out.same hsr)
              have ck6 := (Fr.cell hsr (p := ⟨sg, so + k * 5, none⟩) (Nat.lt_of_lt_of_le hg hsz) (fun h => h)).trans ck
              have hfull' : ¬ ((L.length : Int) < room) := by omega
              go_wp2_with fail
              refine (len19 _ b room a0 L.length cc _ HST6.out.inbox).mono ?_
              rintro e w' ⟨rfl, rfl⟩
              go_wp2_with fail
              go_roundw
              case rel => exact ⟨k + 1, L, a0, cc, la, lc, by go_num, rfl, HST6.out⟩
              case measure => simp [intOf]; omega
        · have hless : (L.length : Int) < room := by have := HST3.out.most; omega
          refine (put16 w3 b room a0 L.length cc _ HST3.out.inbox hless (by omega) x.id x.src x.dst au x.m cu _ w3.heap.size (Nat.le_refl _) (hu3.rd (fun g hg => hu3.lt hg)) hone hxm).mono ?_
          rintro e w4 ⟨rfl, a', c', ad, cd, hI4, hcl, hcn, hf4, hr4⟩
          have hbl := HST.out.inbox.1.lt
          have hrl : ∀ g, (Value.slice a0 L.length cc).ownBlock = some g → g < wo.heap.size := fun g hg => HST.out.inbox.2.lt hg
          have hy11 := Blk.fr (S := fun k => k = b ∨ (Value.slice a0 L.length cc).ownBlock = some k) hx11'' hf4 (fun hh => by
            rcases hh with hh | hh
            · omega
            · have := hrl _ hh
              omega)
          have hy12 := Blk.fr (S := fun k => k = b ∨ (Value.slice a0 L.length cc).ownBlock = some k) hx12'' hf4 (fun hh => by
            rcases hh with hh | hh
            · omega
            · have := hrl _ hh
              omega)
          have hu4 : OwnS w4 5 1 (.slice au x.m cu) x.m (x.bs.map (Value.int .u8)) := hu3.fr hf4 (fun g hg hh => by
            rcases hh with rfl | hh
            · exact hu3.ne_blk HST3.out.inbox.1 (by decide) hg
            · exact hu3.ne_ HST3.out.inbox.2 (by decide) hg hh)
          clear hx11'' hx12''
          have hrs : ∀ s ∈ L, ∀ g, (Value.slice s.a1 s.m s.c1).ownBlock = some g → g < wo.heap.size := fun s hs g hg => (HST.out.tw s hs).own.lt hg
          generalize wo.heap.size = y11 at *
          generalize y11 + 1 = y12 at hy12 ⊢
          simp only [List.setIfInBounds_toArray, List.set_cons_zero, List.set_cons_succ] at hy12
          go_wp2_with fail
          go_loopw [14] (fun j wx => ∃ (q : Nat) (zs : List Value), q ≤ x.m ∧ j = .int .i64 q ∧ OwnS wx 5 1 (.slice au x.m cu) x.m zs ∧ Fr (fun k => (Value.slice au x.m cu).ownBlock = some k) w4 wx) (fun j _ => x.m - (intOf j).toNat)
          case atStart => exact ⟨0, _, Nat.zero_le _, rfl, hu4, Fr.refl _ _⟩
          case round =>
            obtain ⟨q, zs, hq, rfl, hux, hfx⟩ := hrel
            have hz12 := Blk.fr (S := fun k => (Value.slice au x.m cu).ownBlock = some k) hy12 hfx (hu4.ne_blk hy12 (by decide))
            have t3 : wr.cell? ⟨y12, 3, none⟩ = some (.slice au x.m cu) := hz12.cell 3
            by_cases hqm : q < x.m
            · obtain ⟨gu, ou, rfl⟩ : ∃ g o, au = some ⟨g, o, none⟩ := by
                rcases hux.2 with ⟨h, h0⟩ | ⟨g, o, cap, cur, h, _⟩
                · omega
                · cases h; exact ⟨g, o, rfl⟩
              have hzl : zs.length = x.m := by simpa using hux.1
              have hcu : ∃ uv, wr.cell? ⟨gu, ou + q, none⟩ = some uv := by
                have := hux.cells rfl q _ (List.getElem?_eq_getElem (by omega))
                rw [add_at] at this
                exact ⟨_, this⟩
              obtain ⟨uv, hcu⟩ := hcu
              have hfu : wr.frozen? ⟨gu, ou + q, none⟩ = false := hux.frozen _
              go_wp2
              go_roundw
              case rel => exact ⟨q + 1, _, by omega, by go_num, hux.store q _, Fr.setCell (p := ⟨gu, ou + q, none⟩) hfx (.inl rfl) _⟩
              case measure => simp [intOf]; omega
            · have hz11 := Blk.fr (S := fun k => (Value.slice au x.m cu).ownBlock = some k) hy11 hfx (hu4.ne_blk hy11 (by decide))
              have s0 : wr.cell? ⟨y11, 0, none⟩ = some (.int .u64 x.id) := hz11.cell 0
              have s1 : wr.cell? ⟨y11, 1, none⟩ = some (.int .i64 x.src) := hz11.cell 1
              have s2 : wr.cell? ⟨y11, 2, none⟩ = some (.int .i64 x.dst) := hz11.cell 2
              have s3 : wr.cell? ⟨y11, 3, none⟩ = some (.slice x.a x.m x.c) := hz11.cell 3
              have hl4 : OwnS w4 49 4 (.slice la L.length lc) L.length (L.flatMap Tw.two) := HST3.out.list.fr hf4 (fun g hg hh => by
                rcases hh with rfl | hh
                · exact HST3.out.list.ne_blk HST3.out.inbox.1 (by decide) hg
                · exact HST3.out.apart g hh hg)
              have hl5 : OwnS wr 49 4 (.slice la L.length lc) L.length (L.flatMap Tw.two) := hl4.fr hfx (fun g hg hh => hu4.ne_ hl4 (by decide) hh hg)
              have hk2b : (x.kind == 2) = false := by
                have : x.kind = 1 := by simpa using hk1b
                rw [this]; rfl
              go_wp2_with (at_builtin; go_must (refine wpList_append_S rfl (.tmp 113) (.tmp 115) _ rfl 49 i49 _ 4 48 Try.underlying45 hi49 hz49 hs49 hb49 rfl (hl5.alloc _) rfl (RdS.new' (by first | rfl | simp) 49 4 1 [.int .u64 x.id, .int .i64 x.src, .int .i64 x.dst, .slice x.a x.m x.c] rfl 1 (Nat.le_refl _)) rfl (by simp [Value.oneCell']) (by simp only [maxLen]; omega) (by omega) ?_); intro v6 w6 hl6 hf6 hv6 hn6; obtain ⟨la', lc', rfl, -⟩ := hl6.form; have HST6 := Lib.hid (St.put HST3.out ⟨x.id, x.src, x.dst, x.m, x.bs, ad, cd, x.a, x.c⟩ hless hI4 hcl hcn hf4 hr4 hby3 hxm hu4 (fun g hg => Nat.le_of_lt (Nat.lt_of_le_of_lt hsz (Nat.lt_of_succ_lt (hv2' g hg)))) (fun g hg hh => Nat.lt_irrefl _ (Nat.lt_of_lt_of_le (hu3.lt hg) (hcn g hh))) (fun s hs g hg hh => Nat.lt_irrefl _ (Nat.lt_trans (hrs s hs g hh) (Nat.lt_of_succ_lt (hv2' g hg)))) hfx hl6 (Fr.trans' ((Fr.refl (fun _ => False) _).alloc _) hf6 (fun _ h => h.elim) (fun _ _ h => h)) (fun g hg => hv6.imp (fun h => h.symm.trans hg) (fun h => by have h7 : some g = some _ := hg.symm.trans h; cases h7; simp))); have ck6 := (HST6.out.below.cell (p := ⟨sg, so + k * 5, none⟩) hg).trans ((HST.out.below.cell (p := ⟨sg, so + k * 5, none⟩) hg).symm.trans ck))
              obtain ⟨xs6, HI6⟩ : ∃ xs6, InboxIs w6 b room (.slice a' (L.length + 1) c') (L.length + 1) xs6 := ⟨_, by
                have := HST6.out.inbox
                rw [List.length_append] at this
                exact this⟩
              have hcast : ((L.length + 1 : Nat) : Int) = (L.length : Int) + 1 := by omega
              refine (len19 w6 b room a' (L.length + 1) c' _ HI6).mono ?_
              rintro e w' ⟨rfl, rfl⟩
              rw [hcast]
              go_wp2_with fail
              go_roundw
              case rel => exact ⟨k + 1, _, a', c', la', lc', by go_num, by simp, HST6.out⟩
              case measure => simp [intOf]; omega
      · have hk1b : (x.kind == 1) = false := by simpa using hk1
        clear hk1
        by_cases hk2 : x.kind = 2
        · have hk2b : (x.kind == 2) = true := by simpa using hk2
          clear hk2
          go_wp2_with fail
          cases L with
          | nil =>
            refine (take17n wo b room a0 cc _ HST.out.inbox).mono ?_
            rintro e w3 ⟨rfl, hs3⟩
            have hb0 : ∀ W : World, Bytes W W.heap.size none 0 0 [] := fun W => RdS.nil _ _ _
            go_wp2_with fail
            refine (same18 _ 0 0 0 none none 0 0 0 [] (by omega) (hb0 _) (hb0 _)).mono ?_
            rintro e w4 ⟨rfl, hs4⟩
            have hsr : Same wo w4 := Fr.trans' (T := fun _ => False) hs3 (Fr.trans' (T := fun _ => False) (((Fr.refl _ _).alloc _).alloc _) hs4 (fun _ h => h) (fun _ _ h => h)) (fun _ h => h) (fun _ _ h => h)
            have HST6 := Lib.hid (HST.out.same hsr)
            clear hs3 hs4
            go_wp2_with fail
            refine (len19 _ b room a0 _ cc _ HST6.out.inbox).mono ?_
            rintro e w' ⟨rfl, rfl⟩
            go_wp2_with fail
            go_roundw
            case rel => exact ⟨k + 1, [], a0, cc, la, lc, by go_num, rfl, HST6.out⟩
            case measure => simp [intOf]; omega
          | cons t L =>
            have hI : InboxIs wo b room (.slice a0 (L.length + 1) cc) (L.length + 1) ([.int .u64 t.id, .int .i64 t.src, .int .i64 t.dst, .slice t.a1 t.m t.c1] ++ L.flatMap Tw.one) := by
              have := HST.out.inbox
              rw [List.flatMap_cons] at this
              exact this
            have hL : OwnS wo 49 4 (.slice la (L.length + 1) lc) (L.length + 1) ([.int .u64 t.id, .int .i64 t.src, .int .i64 t.dst, .slice t.a2 t.m t.c2] ++ L.flatMap Tw.two) := by
              have := HST.out.list
              rw [List.flatMap_cons] at this
              exact this
            have hone : ∀ u ∈ L.flatMap Tw.one, u.oneCell' = true := fun u hu => by
              obtain ⟨s, _, hs⟩ := List.mem_flatMap.1 hu
              simp only [Tw.one, List.mem_cons, List.not_mem_nil, or_false] at hs
              rcases hs with rfl | rfl | rfl | rfl <;> rfl
            have hmost : L.length ≤ 255 := by
              have h1 := HST.out.most
              simp only [List.length_cons] at h1
              omega
            have htw := HST.out.tw t List.mem_cons_self
            have hap := HST.out.apart
            refine (take17 wo b room a0 L.length cc _ t.id t.src t.dst t.a1 t.m t.c1 (by omega) hone hI).mono ?_
            rintro e w4 ⟨rfl, a', c', hI4, hf4, hr4⟩
            have hL4 : OwnS w4 49 4 (.slice la (L.length + 1) lc) (L.length + 1) ([.int .u64 t.id, .int .i64 t.src, .int .i64 t.dst, .slice t.a2 t.m t.c2] ++ L.flatMap Tw.two) := hL.fr hf4 (fun g hg hh => by
              rcases hh with rfl | hh
              · exact hL.ne_blk hI.1 (by decide) hg
              · exact hap g hh hg)
            have hto4 : OwnS w4 5 1 (.slice t.a1 t.m t.c1) t.m (t.bs.map (Value.int .u8)) := htw.own.fr hf4 (fun g hg hh => by
              rcases hh with rfl | hh
              · exact htw.own.ne_blk hI.1 (by decide) hg
              · exact htw.own.ne_ hI.2 (by decide) hg hh)
            have hsz : w.heap.size ≤ wo.heap.size := HST.out.below.size
            have hnw : ∀ k, k < w.heap.size → ¬ (k = b ∨ (Value.slice a0 (L.length + 1) cc).ownBlock = some k) := fun k hk hh => by
              rcases hh with rfl | hh
              · have := HST.out.new
                omega
              · have := HST.out.row k hh
                omega
            have htr4 : Bytes w4 w.heap.size t.a2 t.m t.c2 t.bs := RdS.fr htw.rd hf4 hsz hnw
            have hsz4 := hf4.size
            have hroom := htw.room
            have hbl4 : Below w.heap.size w w4 := HST.out.below.trans (Fr.below hf4 hsz hnw)
            have ck4 := (hbl4.cell (p := ⟨sg, so + k * 5, none⟩) hg).trans ((HST.out.below.cell (p := ⟨sg, so + k * 5, none⟩) hg).symm.trans ck)
            obtain ⟨gl, ol, rfl⟩ : ∃ g o, la = some ⟨g, o, none⟩ := by
              rcases hL4.2 with ⟨h, h0⟩ | ⟨g, o, cap, cur, h, _⟩
              · omega
              · cases h; exact ⟨g, o, rfl⟩
            have hlcc : L.length + 1 ≤ lc := by
              obtain ⟨_, _, h, h1, _⟩ := hL4.form
              cases h
              exact h1
            have hcell := hL4.cells rfl
            simp only [add_at] at hcell
            have m0 : w4.cell? ⟨gl, ol, none⟩ = some (.int .u64 t.id) := hcell 0 _ rfl
            have m1 : w4.cell? ⟨gl, ol + 1, none⟩ = some (.int .i64 t.src) := hcell 1 _ rfl
            have m2 : w4.cell? ⟨gl, ol + 2, none⟩ = some (.int .i64 t.dst) := hcell 2 _ rfl
            have m3 : w4.cell? ⟨gl, ol + 3, none⟩ = some (.slice t.a2 t.m t.c2) := hcell 3 _ rfl
            have hgl : gl < w4.heap.size := hL4.lt rfl
            have hd := hL4.drop (k := 1) (by omega)
            have hb1 : ∀ A B : Obj, Bytes ((w4.alloc A).alloc B) ((w4.alloc A).alloc B).heap.size t.a1 t.m t.c1 t.bs := fun A B =>
              RdS.mono (RdS.alloc (RdS.alloc (hto4.rd (B := w4.heap.size) (fun g hg => hto4.lt hg)) (Nat.le_refl _) A) (by simp) B) (by simp; omega)
            have hb2 : ∀ A B : Obj, Bytes ((w4.alloc A).alloc B) ((w4.alloc A).alloc B).heap.size t.a2 t.m t.c2 t.bs := fun A B =>
              RdS.mono (RdS.alloc (RdS.alloc htr4 (by omega) A) (by simp; omega) B) (by simp; omega)
            clear hcell htw hap hL hto4 htr4 hone hI hbl4
            have HD := Lib.hid hd
            clear hd hL4
            rcases Classical.em (lc = 1) with hlc | hlc
            · subst hlc
              go_wp2_with fail
              refine (same18 _ t.id t.src t.dst t.a1 t.a2 t.m t.c1 t.c2 t.bs hroom (hb1 _ _) (hb2 _ _)).mono ?_
              rintro e w5 ⟨rfl, hs5⟩
              have hsr : Same w4 w5 := Fr.trans' (T := fun _ => False) (((Fr.refl _ _).alloc _).alloc _) hs5 (fun _ h => h) (fun _ _ h => h)
              clear hs5
              have hd : OwnS w4 49 4 (.slice (some ⟨gl, ol, none⟩) L.length 0) L.length (L.flatMap Tw.two) := by simpa [sliced] using HD.out
              have HST6 := Lib.hid (St.take HST.out hI4 hf4 hr4 hd (fun g h => h) hsr)
              have hlen1 : ¬ ((L.length : Int) + 1 < 1) := by omega
              go_wp2_with fail
              refine (len19 _ b room a' L.length c' _ HST6.out.inbox).mono ?_
              rintro e w' ⟨rfl, rfl⟩
              go_wp2_with fail
              go_roundw
              case rel => exact ⟨k + 1, L, a', c', _, _, by go_num, by rw [show L.length = 0 by omega], HST6.out⟩
              case measure => simp [intOf]; omega
            · go_wp2_with fail
              refine (same18 _ t.id t.src t.dst t.a1 t.a2 t.m t.c1 t.c2 t.bs hroom (hb1 _ _) (hb2 _ _)).mono ?_
              rintro e w5 ⟨rfl, hs5⟩
              have hsr : Same w4 w5 := Fr.trans' (T := fun _ => False) (((Fr.refl _ _).alloc _).alloc _) hs5 (fun _ h => h) (fun _ _ h => h)
              clear hs5
              have hd : OwnS w4 49 4 (.slice (some ⟨gl, ol + 4, none⟩) L.length (lc - 1)) L.length (L.flatMap Tw.two) := by simpa [sliced, hlc, add_at] using HD.out
              have HST6 := Lib.hid (St.take HST.out hI4 hf4 hr4 hd (fun g h => h) hsr)
              have hlen1 : ¬ ((L.length : Int) + 1 < 1) := by omega
              go_wp2_with fail
              refine (len19 _ b room a' L.length c' _ HST6.out.inbox).mono ?_
              rintro e w' ⟨rfl, rfl⟩
              go_wp2_with fail
              go_roundw
              case rel => exact ⟨k + 1, L, a', c', _, _, by go_num, rfl, HST6.out⟩
              case measure => simp [intOf]; omega
        · have hk2b : (x.kind == 2) = false := by simpa using hk2
          clear hk2
          go_wp2_with fail
          refine (len19 _ b room a0 L.length cc _ HST.out.inbox).mono ?_
          rintro e w' ⟨rfl, rfl⟩
          go_wp2_with fail
          go_roundw
          case rel => exact ⟨k + 1, L, a0, cc, la, lc, by go_num, rfl, HST.out⟩
          case measure => simp [intOf]; omega
    · by_cases h400 : k < 400
      · have hkl : ¬ k < l.length := fun h => hlt ⟨h400, h⟩
        go_wp2
        go_ret
        exact ⟨rfl, hst.below⟩
      · by_cases hkl : k < l.length
        · go_wp2
          go_ret
          exact ⟨rfl, hst.below⟩
        · go_wp2
          go_ret
          exact ⟨rfl, hst.below⟩
end Go.Proofs.Ytekiccbhjnfciaa
