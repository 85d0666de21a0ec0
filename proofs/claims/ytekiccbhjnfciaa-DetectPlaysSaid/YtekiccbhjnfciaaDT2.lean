/- An act of the script, done to both detectors: they answer alike. -/
import Derived.Test.YtekiccbhjnfciaaDT1
import Derived.Deep.DeepCutAuto
namespace Go.Proofs.Ytekiccbhjnfciaa
open Go.RowKit
/-- the act is done: both sides hold the same -/
def Done (A : At) (w0 : World) (e : Ending) (w' : World) : Prop := e = .returned (.bool true) ∧ ∃ now' L', Tw A now' w0 w' L' L'
/-- the same behind the head of the step -/
theorem Done.of {A : At} {w0 w' : World} {now : Int} {ob : Nat} {o : ActI} {L : List PeerI} (h : TwO A now ob o w0 w' L L) : Done A w0 (.returned (.bool true)) w' := ⟨rfl, now, L, h.tw⟩

theorem OwnS.notRS {w : World} {e : TypeId} {size n : Nat} {v : Value} {xs : List Value} {B : Nat} (h : OwnS w e size v n xs) (h1 : e ≠ 34) (h2 : e ≠ 111) : ∀ k, v.ownBlock = some k → ¬ RS w B k := by
  intro k hk
  rcases h.2 with ⟨rfl, _⟩ | ⟨g', o, cap, cur, rfl, hg, _⟩
  · cases hk
  · have : g' = k := by simpa [Value.ownBlock] using hk
    subst this
    exact Blk.notRS (t := e) hg h1 h2
theorem suspI_len (L : List PeerI) (t : Int) : (suspI L t).length ≤ L.length := by
  unfold suspI
  split
  · rw [List.length_map]
    exact List.length_filter_le _ _
  · simp
theorem changesI_len (L : List PeerI) (t : Int) : (changesI L t).1.length ≤ L.length := by
  unfold changesI
  split
  · simp only [List.length_map]
    exact List.length_filter_le _ _
  · simp
set_option maxRecDepth 100000 in
set_option maxHeartbeats 8000000 in
theorem step13 (A : At) (now : Int) (w0 w : World) (L : List PeerI) (o : ActI) (h : Tw A now w0 w L L) (htb : A.B ≤ A.tb) : Calls Try.prog 13 #[.pointer (some ⟨A.tb, 0, none⟩), .agg o.cells.toArray] w (Done A w0) := by
  have hbox := Blk.new w 39 #[.int .i64 o.kind, .int .i64 o.peer, .int .i64 o.t, .bool o.raw]
  have hs1 : Same w (w.alloc (.cells #[.int .i64 o.kind, .int .i64 o.peer, .int .i64 o.t, .bool o.raw] 39)) := (Same.refl w).alloc _
  have H : TwO A now w.heap.size o w0 (w.alloc (.cells #[.int .i64 o.kind, .int .i64 o.peer, .int .i64 o.t, .bool o.raw] 39)) L L := ⟨h.same hs1, hbox⟩
  unfold ActI.cells
  go_enter Try.func13, Try.ntmps13
  go_upto_region 2 with fail
  clear hbox hs1 h
  generalize w.heap.size = ob at H ⊢
  generalize w.alloc (.cells #[.int .i64 o.kind, .int .i64 o.peer, .int .i64 o.t, .bool o.raw] 39) = w1 at H ⊢
  have c0 : w1.cell? ⟨A.tb, 2, none⟩ = some (.int .i64 now) := H.tw.blk.cell 2
  have f0 : w1.frozen? ⟨A.tb, 2, none⟩ = false := H.tw.blk.frozen 2
  have c1 : w1.cell? ⟨ob, 3, none⟩ = some (.bool o.raw) := H.box.cell 3
  have c2 : w1.cell? ⟨ob, 0, none⟩ = some (.int .i64 o.kind) := H.box.cell 0
  generalize Value.agg #[.int .i64 o.kind, .int .i64 o.peer, .int .i64 o.t, .bool o.raw] = pv
  go_cut [31] (fun s31 wx => ∃ b : Bool, s31 = .bool b ∧ wx = w1)
  case first =>
    go_wp2_with fail
    all_goals go_meet
    all_goals exact ⟨_, rfl, rfl⟩
  obtain ⟨b, rfl, rfl⟩ := hcut
  go_upto_if 31 with fail
  go_cut [5] (fun s5 wx => ∃ t now' : Int, s5 = .int .i64 t ∧ TwO A now' ob o w0 wx L L)
  case first =>
    go_wp2_with fail
    all_goals go_meet
    · exact ⟨_, _, rfl, H.tick htb _⟩
    · exact ⟨_, _, rfl, H⟩
  case rest =>
    obtain ⟨t, now', rfl, HT⟩ := hcut
    have c2 : wc.cell? ⟨ob, 0, none⟩ = some (.int .i64 o.kind) := HT.box.cell 0
    by_cases h1 : o.kind = 1
    · have h1' : (o.kind == 1) = true := by simpa using h1
      clear h1
      go_upto_region 7 with fail
      have HT0 := HT.drew; have hk0 := HT0.cells; clear HT
      clear H c0 f0 c1 c2
      go_region_held3 (fun W => W.cell? ⟨A.tb, 0, none⟩ = some (.pointer (some ⟨A.d, 0, none⟩)) ∧ W.cell? ⟨A.tb, 1, none⟩ = some (.pointer (some ⟨A.r, 0, none⟩)) ∧ W.cell? ⟨ob, 1, none⟩ = some (.int .i64 o.peer))
        (first | assumption | exact TwO.cells (by assumption))
        (first | (go_at_call 39; refine (tw39 (by assumption) _ _).mono ?_; rintro e W' ⟨rfl, HT⟩) | (go_at_call 43; refine (tw43 (by assumption) _ _).mono ?_; rintro e W' ⟨rfl, HT⟩))
      all_goals go_wp2
      all_goals go_ret
      all_goals exact Done.of (by assumption)
    by_cases h2 : o.kind = 2
    · have h2' : (o.kind == 2) = true := by simpa using h2
      have hn1 : (o.kind == 1) = false := by simpa using h1
      clear h1 h2
      go_upto_region 9 with fail
      have HT0 := HT.drew; have hk0 := HT0.cells; clear HT
      clear H c0 f0 c1 c2
      go_region_held3 (fun W => W.cell? ⟨A.tb, 0, none⟩ = some (.pointer (some ⟨A.d, 0, none⟩)) ∧ W.cell? ⟨A.tb, 1, none⟩ = some (.pointer (some ⟨A.r, 0, none⟩)) ∧ W.cell? ⟨ob, 1, none⟩ = some (.int .i64 o.peer))
        (first | assumption | exact TwO.cells (by assumption))
        (first | (go_at_call 44; refine (tw44 (by assumption) _).mono ?_; rintro e W' ⟨rfl, HT⟩) | (go_at_call 45; refine (tw45 (by assumption) _).mono ?_; rintro e W' ⟨rfl, HT⟩))
      all_goals go_wp2
      all_goals go_ret
      all_goals exact Done.of (by assumption)
    by_cases h3 : o.kind = 3
    · have h3' : (o.kind == 3) = true := by simpa using h3
      have hn1 : (o.kind == 1) = false := by simpa using h1
      have hn2 : (o.kind == 2) = false := by simpa using h2
      clear h1 h2 h3
      go_upto_region 11 with fail
      have HT0 := HT.drew; have hk0 := HT0.cells; clear HT
      clear H c0 f0 c1 c2
      go_region_held3 (fun W => W.cell? ⟨A.tb, 0, none⟩ = some (.pointer (some ⟨A.d, 0, none⟩)) ∧ W.cell? ⟨A.tb, 1, none⟩ = some (.pointer (some ⟨A.r, 0, none⟩)) ∧ W.cell? ⟨ob, 1, none⟩ = some (.int .i64 o.peer))
        (first | assumption | exact TwO.cells (by assumption))
        (first | (go_at_call 41; refine (tw41 (by assumption) _ _).mono ?_; rintro e W' ⟨rfl, HT⟩) | (go_at_call 46; refine (tw46 (by assumption) _ _).mono ?_; rintro e W' ⟨rfl, HT⟩))
      all_goals go_wp2
      all_goals go_ret
      all_goals exact Done.of (by assumption)
    have hn1 : (o.kind == 1) = false := by simpa using h1
    have hn2 : (o.kind == 2) = false := by simpa using h2
    have hn3 : (o.kind == 3) = false := by simpa using h3
    clear h1 h2 h3 H c0 f0 c1
    by_cases h4 : o.kind = 4
    · have h4' : (o.kind == 4) = true := by simpa using h4
      clear h4
      obtain ⟨i0, hi, hz0, hz1, hz2⟩ := info_parts info3
      have hsl : (suspI L t).length ≤ 12 := Nat.le_trans (suspI_len L t) HT.tw.good1.len
      obtain ⟨q0, q1, -⟩ := HT.cells
      go_upto_region 14 with (go_at_call 40; refine (susp40 _ A.d A.mb A.g L t HT.tw.good1 HT.tw.imp).mono ?_; rintro e w2 ⟨l, rfl, ho, hok, hs2⟩; obtain ⟨la, lc, rfl, hlc, -⟩ := ho.form)
      have HT2 := HT.same hs2
      clear q0 q1 c2
      obtain ⟨q0, q1, -⟩ := HT2.cells
      obtain ⟨v, hv⟩ := HT2.tw.ref
      go_wp2_with (first | (go_at_call 48; refine (susp48 _ A.B A.r v A.g L t HT2.tw.good1 hv).mono ?_; rintro e w3 ⟨l2, rfl, ho2, hok2, hs3⟩; have ho3 := ho.same hs3) | (go_at_call 47; refine (same47 _ _ _ (suspI L t) ho3 ho2 hsl).mono ?_; rintro e w4 ⟨rfl, hs4⟩))
      have hS4 := (hs2.trans hs3).trans hs4
      have ho4 := ho3.same hs4
      clear hs2 hs3 hs4 ho ho2 ho3 hok2 HT2 hv q0 q1
      generalize (suspI L t).length = n at *
      go_loopw [8] (fun s8 wx => ∃ (q : Nat) (zs : List Value), s8 = .int .i64 q ∧ q ≤ n ∧ OwnS wx 3 1 (.slice la n lc) n zs ∧ Same wc wx) (fun s8 _ => n - (intOf s8).toNat)
      case atStart => exact ⟨0, _, rfl, by omega, ho4, hS4⟩
      case round =>
        obtain ⟨q, zs, rfl, hq, hox, hSx⟩ := hrel
        by_cases hlt : q < n
        · obtain ⟨gg, og, rfl⟩ : ∃ g o, la = some ⟨g, o, none⟩ := by
            rcases hox.2 with ⟨h, h0⟩ | ⟨g, o, cap, cur, h, _⟩
            · omega
            · cases h; exact ⟨g, o, rfl⟩
          have hx1 : (q : Int) < (n : Int) := by omega
          have fz : wr.frozen? ⟨gg, og + q, none⟩ = false := hox.frozen _
          have hzl : zs.length = n := by simpa using hox.1
          obtain ⟨u, hu⟩ : ∃ u, wr.cell? ⟨gg, og + q, none⟩ = some u := by
            have := hox.cells rfl q _ (List.getElem?_eq_getElem (by omega))
            rw [add_at] at this
            exact ⟨_, this⟩
          go_wp2
          go_roundw
          case measure => simp only [intOf]; omega
          case rel => exact ⟨q + 1, _, by go_num, by omega, hox.store q (.int .i64 (-1)), Fr.setCell (S := fun _ => False) hSx (p := ⟨gg, og + q, none⟩) (.inr (hok _ rfl)) _⟩
        · obtain rfl : q = n := by omega
          go_wp2_with ((at_builtin; go_must (refine wpList_append_S rfl (.tmp 127) (.tmp 128) _ rfl 3 i0 _ 1 8 Try.underlying95 hi hz0 hz1 hz2 rfl (hox.alloc _) rfl (RdS.new' (by first | rfl | simp) 3 1 2 [.int .i64 (-1), .int .i64 (-1)] rfl 2 (Nat.le_refl _)) rfl (by simp [Value.oneCell']) (by simp only [maxLen]; omega) (by omega) ?_); intro v4 w4 hown4 hf4 hv4 hn4))
          go_ret
          exact Done.of (HT.same (Fr.trans' (S := fun _ => False) (Fr.alloc (S := fun _ => False) hSx _) hf4 (fun _ h => h) (fun k hk hh => by have := hok _ hh; omega)))
    · have hn4 : (o.kind == 4) = false := by simpa using h4
      clear h4
      by_cases h5 : o.kind = 5
      · have h5' : (o.kind == 5) = true := by simpa using h5
        clear h5
        obtain ⟨i0, hi, hz0, hz1, hz2⟩ := info_parts info108
        have hsl : (changesI L t).1.length ≤ 12 := Nat.le_trans (changesI_len L t) HT.tw.good1.len
        have hgood := changesI_good HT.tw.good1 t
        obtain ⟨q0, q1, -⟩ := HT.cells
        have hmb : A.mb < wc.heap.size := by obtain ⟨M, hM, _⟩ := HT.tw.imp.map; exact hM.lt
        have hBw : A.B ≤ wc.heap.size := by have := HT.tw.ge; omega
        go_upto_region 23 with (go_at_call 49; refine (changes49 _ A.d A.mb A.g L t HT.tw.good1 HT.tw.imp).mono ?_; rintro e w2 ⟨l, rfl, ho, hok, hi2, hf2⟩; obtain ⟨la, lc, rfl, hlc, -⟩ := ho.form)
        have HT2 := HT.imp_did hgood hi2 hf2
        have hokm : ∀ k, (Value.slice la (changesI L t).1.length lc).ownBlock = some k → A.mb ≠ k := fun k hk => by have := hok k hk; omega
        have hokB : ∀ k, (Value.slice la (changesI L t).1.length lc).ownBlock = some k → A.B ≤ k := fun k hk => by have := hok k hk; omega
        clear q0 q1 c2 hi2 hf2 hmb hBw HT hok
        obtain ⟨q0, q1, -⟩ := HT2.cells
        obtain ⟨v, hv⟩ := HT2.tw.ref
        go_wp2_with (first | (go_at_call 51; refine (changes51 _ A.B A.r v A.g L t HT2.tw.good2 hv).mono ?_; rintro e w3 ⟨⟨l2, rfl, ho2, hok2⟩, hr3, hf3⟩; have HT3 := HT2.ref_did hgood ⟨_, hr3⟩ hf3; have ho3 := ho.fr hf3 (ho.notRS (by decide) (by decide))) | (go_at_call 50; refine (same50 _ _ _ (changesI L t).1 ho3 ho2 hsl).mono ?_; rintro e w4 ⟨rfl, hs4⟩))
        have HT4 := HT3.same hs4
        have ho4 := ho3.same hs4
        clear hs4 ho ho2 ho3 hok2 HT2 HT3 hv q0 q1 hr3 hf3
        generalize (changesI L t).1.length = n at *
        go_loopw [11] (fun s8 wx => ∃ (q : Nat) (zs : List Value), s8 = .int .i64 q ∧ q ≤ n ∧ OwnS wx 108 2 (.slice la n lc) n zs ∧ Fr (fun k => (Value.slice la n lc).ownBlock = some k) w4 wx) (fun s8 _ => n - (intOf s8).toNat)
        case atStart => exact ⟨0, _, rfl, by omega, ho4, Fr.refl _ _⟩
        case round =>
          obtain ⟨q, zs, rfl, hq, hox, hSx⟩ := hrel
          by_cases hlt : q < n
          · obtain ⟨gg, og, rfl⟩ : ∃ g o, la = some ⟨g, o, none⟩ := by
              rcases hox.2 with ⟨h, h0⟩ | ⟨g, o, cap, cur, h, _⟩
              · omega
              · cases h; exact ⟨g, o, rfl⟩
            have hx1 : (q : Int) < (n : Int) := by omega
            have fz : wr.frozen? ⟨gg, og + q * 2, none⟩ = false := hox.frozen _
            have fz1 : wr.frozen? ⟨gg, og + q * 2 + 1, none⟩ = false := hox.frozen _
            have hzl : zs.length = n * 2 := hox.1
            obtain ⟨u, hu⟩ : ∃ u, wr.cell? ⟨gg, og + q * 2, none⟩ = some u := by
              have := hox.cells rfl (q * 2) _ (List.getElem?_eq_getElem (by omega))
              rw [add_at] at this
              exact ⟨_, this⟩
            obtain ⟨u1, hu1⟩ : ∃ u, wr.cell? ⟨gg, og + q * 2 + 1, none⟩ = some u := by
              have := hox.cells rfl (q * 2 + 1) _ (List.getElem?_eq_getElem (by omega))
              rw [add_at] at this
              exact ⟨_, this⟩
            go_wp2
            go_roundw
            case measure => simp only [intOf]; omega
            case rel => exact ⟨q + 1, _, by go_num, by omega, (hox.store (q * 2) (.int .i64 (-1))).store (q * 2 + 1) (.bool false), Fr.setCell (Fr.setCell hSx (p := ⟨gg, og + q * 2, none⟩) (.inl rfl) _) (p := ⟨gg, og + q * 2 + 1, none⟩) (.inl rfl) _⟩
          · obtain rfl : q = n := by omega
            go_wp2_with ((at_builtin; go_must (refine wpList_append_S rfl (.tmp 157) (.tmp 160) _ rfl 108 i0 _ 2 16 Try.underlying104 hi hz0 hz1 hz2 rfl (hox.alloc _) rfl (RdS.new' (by first | rfl | simp) 108 2 2 [.int .i64 0, .bool false, .int .i64 0, .bool false] rfl 2 (Nat.le_refl _)) rfl (by simp [Value.oneCell']) (by simp only [maxLen]; omega) (by omega) ?_); intro v4 w4 hown4 hf4 hv4 hn4))
            go_ret
            have hx : Fr (fun k => (Value.slice la q lc).ownBlock = some k) _ _ := Fr.trans (hSx.alloc _) hf4
            exact Done.of (HT4.own ho4 (by decide) (by decide) (by decide) (by decide) (by decide) hokm hokB hx)
      · have hn5 : (o.kind == 5) = false := by simpa using h5
        clear h5
        go_wp2
        go_ret
        exact Done.of HT
end Go.Proofs.Ytekiccbhjnfciaa
