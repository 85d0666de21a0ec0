/- Both detectors of a twin: what they are in memory, and what each deed does to them. -/
import Derived.Test.YtekiccbhjnfciaaDR5
import Derived.Test.YtekiccbhjnfciaaDS1
import Derived.Test.YtekiccbhjnfciaaDS2
import Derived.Test.YtekiccbhjnfciaaDP4
namespace Go.Proofs.Ytekiccbhjnfciaa
open Go.RowKit

/-- what is old enough to stay -/
def NW (B k : Nat) : Prop := B ≤ k
/-- where the twin's parts lie -/
structure At where
  B : Nat
  tb : Nat
  d : Nat
  mb : Nat
  r : Nat
  g : Int
/-- The program's detector holds L1, the document's L2; the world was w0. -/
structure Tw (A : At) (now : Int) (w0 w : World) (L1 L2 : List PeerI) : Prop where
  blk : Blk w A.tb 36 #[.pointer (some ⟨A.d, 0, none⟩), .pointer (some ⟨A.r, 0, none⟩), .int .i64 now]
  imp : Imp w A.d A.mb A.g L1
  ref : ∃ v, Refd w A.B A.r v A.g L2
  ge : A.B ≤ A.mb
  good1 : Good L1
  good2 : Good L2
  fr : Fr (NW A.B) w0 w

section
variable {A : At} {now : Int} {w0 w w' : World} {L1 L2 : List PeerI}
theorem Blk.notRS {w : World} {k t : Nat} {cs : Array Value} {B : Nat} (h : Blk w k t cs) (h1 : t ≠ 34) (h2 : t ≠ 111) : ¬ RS w B k := by
  rintro ⟨_, cs', ty, fz, hh, ht⟩
  unfold Blk at h
  rw [h] at hh
  injection hh with hh
  injection hh with _ hty
  rcases ht with ht | ht
  · exact h1 (hty.trans ht)
  · exact h2 (hty.trans ht)
theorem MapIs.notRS {κ : Type} {enc : κ → Value} {w : World} {b : Nat} {M : List (κ × Value)} {B : Nat} (h : MapIs enc w b M) : ¬ RS w B b := by
  rintro ⟨_, cs', ty, fz, hh, ht⟩
  obtain ⟨_, _, h, _⟩ := h
  rw [h] at hh
  cases hh
theorem Refd.frm {B r : Nat} {v : Value} {g : Int} {L : List PeerI} {mb : Nat} {M : List (Int × Value)} (h : Refd w B r v g L) (hM : MapIs (Value.int .i64) w mb M) (hf : Fr (· = mb) w w') : Refd w' B r v g L :=
  Refd.fr (S := fun k => k = mb) h hf (hM.ne_blk h.blk) (fun k hk hkm => by
    subst hkm
    rcases h.own.2 with ⟨rfl, _⟩ | ⟨g', o, cap, cur, rfl, hg, _⟩
    · cases hk
    · have : g' = k := by simpa [Value.ownBlock] using hk
      subst this
      exact hM.ne_blk (t := 111) hg rfl)
theorem Tw.imp_did {L1' : List PeerI} (h : Tw A now w0 w L1 L2) (hg : Good L1') (hi : Imp w' A.d A.mb A.g L1') (hf : Fr (· = A.mb) w w') : Tw A now w0 w' L1' L2 := by
  obtain ⟨h1, h2, ⟨v, h3⟩, h4, h5, h6, h7⟩ := h
  obtain ⟨hb, M, hM, hR⟩ := h2
  exact ⟨Blk.fr (S := fun k => k = A.mb) h1 hf (hM.ne_blk h1), hi, ⟨v, h3.frm hM hf⟩, h4, hg, h6, h7.trans (hf.mono (fun k _ hk => by subst hk; exact h4))⟩
theorem Tw.ref_did {L2' : List PeerI} (h : Tw A now w0 w L1 L2) (hg : Good L2') (hi : ∃ v, Refd w' A.B A.r v A.g L2') (hf : Fr (RS w A.B) w w') : Tw A now w0 w' L1 L2' := by
  obtain ⟨h1, h2, h3, h4, h5, h6, h7⟩ := h
  have h2' := h2
  obtain ⟨hb, M, hM, hR⟩ := h2
  exact ⟨h1.fr hf (h1.notRS (by decide) (by decide)), h2'.fr hf (hb.notRS (by decide) (by decide)) hM.notRS, hi, h4, h5, hg, h7.trans (hf.mono (fun k _ hk => hk.1))⟩
theorem Tw.same (h : Tw A now w0 w L1 L2) (hf : Same w w') : Tw A now w0 w' L1 L2 := by
  obtain ⟨h1, h2, ⟨v, h3⟩, h4, h5, h6, h7⟩ := h
  exact ⟨h1.same hf, h2.same hf, ⟨v, h3.same hf⟩, h4, h5, h6, h7.trans (hf.fr _)⟩
theorem Tw.drew (h : Tw A now w0 w L1 L2) : Tw A now w0 w.drew L1 L2 := h.same (Fr.drew (S := fun _ => False) (Same.refl w))
/-- a slice of the call's own is written -/
theorem Tw.own {e : TypeId} {size n : Nat} {v : Value} {xs : List Value} (h : Tw A now w0 w L1 L2) (ho : OwnS w e size v n xs) (h1 : e ≠ 36) (h2 : e ≠ 101) (h3 : e ≠ 34) (h4 : e ≠ 111)
    (hm : ∀ k, v.ownBlock = some k → A.mb ≠ k) (hB : ∀ k, v.ownBlock = some k → A.B ≤ k) (hf : Fr (fun k => v.ownBlock = some k) w w') : Tw A now w0 w' L1 L2 := by
  obtain ⟨a1, a2, ⟨u, a3⟩, a4, a5, a6, a7⟩ := h
  exact ⟨a1.fr hf (ho.ne_blk a1 h1), a2.fr hf (ho.ne_blk a2.blk h2) (fun h => hm _ h rfl), ⟨u, a3.fr hf (ho.ne_blk a3.blk h3) (fun k hk hh => ho.ne_ a3.own h4 hh hk)⟩, a4, a5, a6,
    a7.trans (hf.mono (fun k _ hk => hB k hk))⟩

/-- the last time is set -/
theorem Tw.tick (h : Tw A now w0 w L1 L2) (htb : A.B ≤ A.tb) (n : Int) : Tw A n w0 (w.setCell ⟨A.tb, 2, none⟩ (.int .i64 n)) L1 L2 := by
  obtain ⟨a1, a2, ⟨u, a3⟩, a4, a5, a6, a7⟩ := h
  have hf : Fr (· = A.tb) w (w.setCell ⟨A.tb, 2, none⟩ (.int .i64 n)) := Fr.setCell (Fr.refl (fun k => k = A.tb) w) (p := ⟨A.tb, 2, none⟩) (.inl rfl) _
  have a2' := a2
  obtain ⟨hb, M, hM, hR⟩ := a2
  refine ⟨by simpa using a1.set_ 2 (.int .i64 n), Imp.fr (S := fun k => k = A.tb) a2' hf (hb.ne_ a1 (by decide)) (fun h => hM.ne_blk a1 h.symm), ⟨u, Refd.fr (S := fun k => k = A.tb) a3 hf (a3.blk.ne_ a1 (by decide)) (fun k hk hh => a3.own.ne_blk a1 (by decide) (by rw [hk, hh]))⟩, a4, a5, a6,
    a7.trans (hf.mono (fun k _ hk => by subst hk; exact htb))⟩

/-- an act of the script -/
structure ActI where
  kind : Int
  peer : Int
  t : Int
  raw : Bool
def ActI.cells (o : ActI) : List Value := [.int .i64 o.kind, .int .i64 o.peer, .int .i64 o.t, .bool o.raw]
/-- the twin, and the act's own box -/
structure TwO (A : At) (now : Int) (ob : Nat) (o : ActI) (w0 w : World) (L1 L2 : List PeerI) : Prop where
  tw : Tw A now w0 w L1 L2
  box : Blk w ob 39 #[.int .i64 o.kind, .int .i64 o.peer, .int .i64 o.t, .bool o.raw]
/-- the cells that are read -/
theorem TwO.cells {A : At} {now : Int} {ob : Nat} {o : ActI} {w0 w : World} {L1 L2 : List PeerI} (h : TwO A now ob o w0 w L1 L2) :
    w.cell? ⟨A.tb, 0, none⟩ = some (.pointer (some ⟨A.d, 0, none⟩)) ∧ w.cell? ⟨A.tb, 1, none⟩ = some (.pointer (some ⟨A.r, 0, none⟩)) ∧ w.cell? ⟨ob, 1, none⟩ = some (.int .i64 o.peer) :=
  ⟨h.tw.blk.cell 0, h.tw.blk.cell 1, h.box.cell 1⟩
/-- e is v, and the twin is as said -/
def Ans (A : At) (now : Int) (ob : Nat) (o : ActI) (w0 : World) (v : Value) (L1 L2 : List PeerI) (e : Ending) (w' : World) : Prop := e = .returned v ∧ TwO A now ob o w0 w' L1 L2
variable {ob : Nat} {o : ActI}
theorem TwO.imp_did {L1' : List PeerI} (h : TwO A now ob o w0 w L1 L2) (hg : Good L1') (hi : Imp w' A.d A.mb A.g L1') (hf : Fr (· = A.mb) w w') : TwO A now ob o w0 w' L1' L2 := by
  obtain ⟨hb, M, hM, hR⟩ := h.tw.imp
  exact ⟨h.tw.imp_did hg hi hf, Blk.fr (S := fun k => k = A.mb) h.box hf (hM.ne_blk h.box)⟩
theorem TwO.ref_did {L2' : List PeerI} (h : TwO A now ob o w0 w L1 L2) (hg : Good L2') (hi : ∃ v, Refd w' A.B A.r v A.g L2') (hf : Fr (RS w A.B) w w') : TwO A now ob o w0 w' L1 L2' :=
  ⟨h.tw.ref_did hg hi hf, h.box.fr hf (h.box.notRS (by decide) (by decide))⟩
theorem TwO.same (h : TwO A now ob o w0 w L1 L2) (hf : Same w w') : TwO A now ob o w0 w' L1 L2 := ⟨h.tw.same hf, h.box.same hf⟩
theorem TwO.tick (h : TwO A now ob o w0 w L1 L2) (htb : A.B ≤ A.tb) (n : Int) : TwO A n ob o w0 (w.setCell ⟨A.tb, 2, none⟩ (.int .i64 n)) L1 L2 := ⟨h.tw.tick htb n, h.box.far (p := ⟨A.tb, 2, none⟩) (h.box.ne_ h.tw.blk (by decide)) _⟩
theorem TwO.drew (h : TwO A now ob o w0 w L1 L2) : TwO A now ob o w0 w.drew L1 L2 := h.same (Fr.drew (S := fun _ => False) (Same.refl w))
theorem TwO.own {e : TypeId} {size n : Nat} {v : Value} {xs : List Value} (h : TwO A now ob o w0 w L1 L2) (ho : OwnS w e size v n xs) (h1 : e ≠ 36) (h2 : e ≠ 101) (h3 : e ≠ 34) (h4 : e ≠ 111) (h5 : e ≠ 39)
    (hm : ∀ k, v.ownBlock = some k → A.mb ≠ k) (hB : ∀ k, v.ownBlock = some k → A.B ≤ k) (hf : Fr (fun k => v.ownBlock = some k) w w') : TwO A now ob o w0 w' L1 L2 :=
  ⟨h.tw.own ho h1 h2 h3 h4 hm hB hf, h.box.fr hf (ho.ne_blk h.box h5)⟩
theorem tw39 (h : TwO A now ob o w0 w L1 L2) (id t : Int) : Calls Try.prog 39 #[.pointer (some ⟨A.d, 0, none⟩), .int .i64 id, .int .i64 t] w (Ans A now ob o w0 (.int .i64 (watchI A.g L1 id t).1) (watchI A.g L1 id t).2 L2) :=
  (watch39 w A.d A.mb A.g L1 id t h.tw.imp).mono fun _ _ ⟨he, h1, h2⟩ => ⟨he, h.imp_did (watchI_good h.tw.good1 id t) h1 h2⟩
theorem tw43 (h : TwO A now ob o w0 w L1 L2) (id t : Int) : Calls Try.prog 43 #[.pointer (some ⟨A.r, 0, none⟩), .int .i64 id, .int .i64 t] w (Ans A now ob o w0 (.int .i64 (watchI A.g L2 id t).1) L1 (watchI A.g L2 id t).2) := by
  obtain ⟨v, hv⟩ := h.tw.ref
  exact (watch43 w A.B A.r v A.g L2 id t h.tw.good2 hv).mono fun _ _ ⟨he, h1, h2⟩ => ⟨he, h.ref_did (watchI_good h.tw.good2 id t) h1 h2⟩
theorem tw44 (h : TwO A now ob o w0 w L1 L2) (id : Int) : Calls Try.prog 44 #[.pointer (some ⟨A.d, 0, none⟩), .int .i64 id] w (Ans A now ob o w0 (.int .i64 (leaveI L1 id).1) (leaveI L1 id).2 L2) :=
  (leave44 w A.d A.mb A.g L1 id h.tw.imp).mono fun _ _ ⟨he, h1, h2⟩ => ⟨he, h.imp_did (leaveI_good h.tw.good1 id) h1 h2⟩
theorem tw45 (h : TwO A now ob o w0 w L1 L2) (id : Int) : Calls Try.prog 45 #[.pointer (some ⟨A.r, 0, none⟩), .int .i64 id] w (Ans A now ob o w0 (.int .i64 (leaveI L2 id).1) L1 (leaveI L2 id).2) := by
  obtain ⟨v, hv⟩ := h.tw.ref
  exact (leave45 w A.B A.r v A.g L2 id h.tw.good2 hv).mono fun _ _ ⟨he, v', h1, h2⟩ => ⟨he, h.ref_did (leaveI_good h.tw.good2 id) ⟨v', h1⟩ h2⟩
theorem tw41 (h : TwO A now ob o w0 w L1 L2) (id t : Int) : Calls Try.prog 41 #[.pointer (some ⟨A.d, 0, none⟩), .int .i64 id, .int .i64 t] w (Ans A now ob o w0 (.int .i64 (beatI L1 id t).1) (beatI L1 id t).2 L2) :=
  (beat41 w A.d A.mb A.g L1 id t h.tw.good1 h.tw.imp).mono fun _ _ ⟨he, h1, h2⟩ => ⟨he, h.imp_did (beatI_good h.tw.good1 id t) h1 h2⟩
theorem tw46 (h : TwO A now ob o w0 w L1 L2) (id t : Int) : Calls Try.prog 46 #[.pointer (some ⟨A.r, 0, none⟩), .int .i64 id, .int .i64 t] w (Ans A now ob o w0 (.int .i64 (beatI L2 id t).1) L1 (beatI L2 id t).2) := by
  obtain ⟨v, hv⟩ := h.tw.ref
  exact (beat46 w A.B A.r v A.g L2 id t h.tw.good2 hv).mono fun _ _ ⟨he, h1, h2⟩ => ⟨he, h.ref_did (beatI_good h.tw.good2 id t) ⟨v, h1⟩ h2⟩
end
end Go.Proofs.Ytekiccbhjnfciaa
