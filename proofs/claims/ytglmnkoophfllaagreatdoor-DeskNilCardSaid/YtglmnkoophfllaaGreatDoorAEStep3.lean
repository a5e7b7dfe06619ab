/-
  The abstract machine's operations, against the model's steps.
-/
import Derived.Test.YtglmnkoophfllaaGreatDoorAEStep2
namespace Go.AE
open Go

section
variable {P : Program} {w0 : World} {m m' : MP} {H H' : AH} {w w' : World} {ops : Array Oper} {t t' : T AV} {tmps : Array Value} {lo hi size : Nat} {dr sus : Bool} {rest : List PStep} {L : List Nat}
variable {am am' : AM} {c : Frame} {cs base : List Frame} {p : PStep} {k : List AItem}

/-- To the operation. -/
theorem toHead (h : St P w0 am c cs w m lo) (hrun : am.fr.mode = .run) (htd : am.fr.todo = .reg ops dr (p :: rest) :: k) (ha : dr = true → p.act = true) (base : List Frame) :
    ∃ m1 w1 tm1 L2 k', KR m1 k k' ∧ Steps P (lone c (cs ++ base) w) (lone (c.atR ⟨tm1, c.defers⟩ (.inRegion ops (p.i :: L2) :: k')) (cs ++ base) w1) ∧
      RegR P m1 am.H lo am.H.next am.fr.size ops dr false (p :: rest) am.fr.tmps tm1 (p.i :: L2) ∧ tm1.size = am.fr.size ∧ HR P w0 m1 am.H w1 ∧ Keep lo m m1 am.H am.H := by
  obtain ⟨h1, h2⟩ := h.todo hrun
  rw [htd] at h2
  obtain ⟨L, k', e1, e2, e3, _⟩ := h2
  obtain ⟨m1, w1, tm1, L1, s1, r1, z1, hr1, k1, _, n1⟩ := e3.catch h.fr.size h.hr h.gl (fun hd => .inr ⟨p, rest, rfl, ha hd⟩) c c.defers k' (cs ++ base)
  obtain ⟨L2, rfl⟩ := n1 p rest rfl
  rw [← e1, atR_self h1] at s1
  exact ⟨m1, w1, tm1, L2, k', e2.mono k1.ext, s1, r1, z1, hr1, k1⟩

/-- The operation has come to a value, in one step. -/
theorem finish_goes (h : St P w0 am c cs w m lo) (hrun : am.fr.mode = .run) (htd : am.fr.todo = .reg ops dr (p :: rest) :: k) (ha : dr = true → p.act = true)
    {m1 : MP} {w1 : World} {tm1 : Array Value} {L2 : List Nat} {k' : List Item} (hk : KR m1 k k') (hx1 : Ext m m1)
    (hs : Steps P (lone c (cs ++ base) w) (lone (c.atR ⟨tm1, c.defers⟩ (.inRegion ops (p.i :: L2) :: k')) (cs ++ base) w1))
    (hreg : RegR P m1 am.H lo am.H.next am.fr.size ops dr false (p :: rest) am.fr.tmps tm1 (p.i :: L2)) (hz : tm1.size = am.fr.size)
    {acs : List AFrame} {cs' : List Frame} {ads : List ADefer} {ds : List Deferred} {v : AV} {u : Value} {fr' : AFrame}
    (hkeep : Keep am.H.next m1 m' am.H H') (hr' : HR P w0 m' H' w') (hgl : GL P m') (hv : conc m' v = some u)
    (hst : step P (lone (c.atR ⟨tm1, c.defers⟩ (.inRegion ops (p.i :: L2) :: k')) (cs ++ base) w1) = .next (lone (c.atR ((⟨tm1, ds⟩ : Act).put p.o.dst u) (.inRegion ops L2 :: k')) (cs' ++ base) w'))
    (hf : afinish P { am.fr with defers := ads } H' v = some fr') (hds : DsR m' ads ds) (hcs : SR P m' H' lo acs cs') : Goes P w0 ⟨fr', acs, H'⟩ c cs base w := by
  obtain ⟨t', ht, hc, rfl⟩ := afinish_reg (fr := { am.fr with defers := ads }) htd hf
  have hfin := hreg.fin (df := ds) ha hkeep hz ht hv hc hkeep.next
  obtain ⟨_, _, q3, q4⟩ := put_get (tmps := tm1) (d := p.o.dst) (u := u) (df := ds)
  refine ⟨_, cs', w', m', lo, Steps.trans hs (.one hst), hr', hgl, Nat.le_trans h.le hkeep.next, ⟨h.fr.fn, h.fr.kind, h.fr.ro.mono (hx1.trans hkeep.ext), ?_, ?_, ?_⟩, hcs⟩
  · simp only [Frame.atR]; rw [q3]; exact hz
  · simp only [Frame.atR]; rw [q4]; exact hds
  · unfold MR
    simp only [hrun]
    exact ⟨rfl, L2, k', rfl, hk.mono hkeep.ext, hfin, by simp⟩

/-- A quiet operation of a drawn region: the model's turn comes later. -/
theorem quiet_goes (h : St P w0 am c cs w m lo) (hrun : am.fr.mode = .run) (htd : am.fr.todo = .reg ops true (p :: rest) :: k) (ha : p.act = false)
    {v : AV} {fr' : AFrame} (hmono : ∀ b o, am.H.get b = some o → H'.get b = some o) (hnext : am.H.next ≤ H'.next) (hsame : ∀ b, b < am.H.next → H'.get b = am.H.get b)
    (hv : (awanted ops am.fr.tmps p.o = false ∧ v = .und) ∨ (awanted ops am.fr.tmps p.o = true ∧ ((qcls P p.o.op = .pure ∧ apure P am.H am.fr.tmps p.o = some v) ∨
      ∃ x, qcls P p.o.op = .fresh ∧ afresh P am.fr.tmps p.o = some x ∧ v = x.val am.H.next ∧ H'.get am.H.next = some x.obj)))
    (hlt : awanted ops am.fr.tmps p.o = true → qcls P p.o.op = .fresh → am.H.next < H'.next) (hr' : HR P w0 m H' w) (hf : afinish P am.fr H' v = some fr') : Goes P w0 ⟨fr', am.cs, H'⟩ c cs base w := by
  obtain ⟨h1, h2⟩ := h.todo hrun
  rw [htd] at h2
  obtain ⟨L, k', e1, e2, ⟨done, e3⟩, _⟩ := h2
  obtain ⟨t', ht, hc, rfl⟩ := afinish_reg htd hf
  obtain ⟨d, hd, _⟩ := e3.ok.facts.dst ha
  rw [hd] at ht
  unfold aput at ht
  simp only at ht
  split at ht
  · rename_i hlt'
    cases ht
    have hnn : am.H.get am.H.next = none := h.hr.have_ _ (Nat.le_refl _)
    have hq := e3.quiet ha hd (by simpa using hlt') hmono hnext hv hnn h.hr.fresh h.le hlt
    refine ⟨c, cs, w, m, lo, Steps.refl _ _, hr', h.gl, Nat.le_trans h.le hnext, ⟨h.fr.fn, h.fr.kind, h.fr.ro, h.fr.size, h.fr.defers, ?_⟩,
      h.cs.keep h.le ⟨Ext.refl m, hnext, fun b hb hm => ⟨hm, hsame b hb⟩⟩⟩
    unfold MR
    simp only [hrun]
    exact ⟨h1, L, k', e1, e2, ⟨_, hq⟩, by simp⟩
  · cases ht

theorem enter_goes {f : Nat} {args : List AV} {as : Array Value} {fr' : AFrame} (h : St P w0 am c cs w m lo) (hrun : am.fr.mode = .run) (htd : am.fr.todo = .reg ops dr (p :: rest) :: k) (ha : dr = true → p.act = true)
    {m1 : MP} {w1 : World} {tm1 : Array Value} {L2 : List Nat} {k' : List Item} (hk : KR m1 k k') (hx1 : Ext m m1)
    (hs : Steps P (lone c (cs ++ base) w) (lone (c.atR ⟨tm1, c.defers⟩ (.inRegion ops (p.i :: L2) :: k')) (cs ++ base) w1))
    (hreg : RegR P m1 am.H lo am.H.next am.fr.size ops dr false (p :: rest) am.fr.tmps tm1 (p.i :: L2)) (hz : tm1.size = am.fr.size) (hr1 : HR P w0 m1 am.H w1) (hk1 : Keep lo m m1 am.H am.H)
    (hst : step P (lone (c.atR ⟨tm1, c.defers⟩ (.inRegion ops (p.i :: L2) :: k')) (cs ++ base) w1) =
      .next (lone (Frame.enter P f as .normal) (c.atR ⟨tm1, c.defers⟩ (.inRegion ops (p.i :: L2) :: k') :: (cs ++ base)) w1))
    (he : aenter P f args .normal = some fr') (hargs : concL m1 args = some as.toList) : Goes P w0 ⟨fr', am.fr :: am.cs, am.H⟩ c cs base w := by
  refine ⟨_, c.atR ⟨tm1, c.defers⟩ (.inRegion ops (p.i :: L2) :: k') :: cs, w1, m1, am.H.next, Steps.trans hs (.one hst), hr1, h.gl.mono hk1.ext, Nat.le_refl _, enter_fr he hargs, ?_⟩
  refine .cons (Nat.le_refl _) h.le ⟨h.fr.fn, h.fr.kind, h.fr.ro.mono hx1, hz, h.fr.defers.mono hk1.ext, ?_⟩ (h.cs.keep (Nat.le_refl _) hk1)
  unfold MR
  simp only [hrun]
  refine ⟨rfl, ?_⟩
  rw [htd]
  exact ⟨_, k', rfl, hk, hreg.susp (Nat.le_refl _), fun _ => ⟨p, rest, L2, rfl, ha, rfl⟩⟩

theorem disj_mem : ∀ {ps : List PStep} {l : List Nat} {q : PStep} {d : Nat}, disj l ps = true → q ∈ ps → q.o.dst = some d → d ∉ l
  | [], _, _, _, _, hq, _ => by simp at hq
  | p :: ps, l, q, d, h, hq, hd => by
    unfold disj at h
    rcases List.mem_cons.1 hq with rfl | hq
    · rw [hd] at h
      simp only at h
      split at h
      · cases h
      · rename_i hm; intro hx; rw [memN_iff.2 hx] at hm; cases hm
    · split at h
      · exact disj_mem h hq hd
      · split at h
        · cases h
        · exact disj_mem h hq hd

/-- A panic may pass: the results are in sight. -/
theorem raise_res {fr : AFrame} {tm : Array Value} {l : List Item} (hr : mayRaise P fr = true) (h : TodoR P m H lo hi size sus fr.todo fr.tmps l tm) : resR P m fr.fn fr.tmps tm := by
  unfold mayRaise at hr
  split at hr
  · cases hr
  · split at hr
    · rename_i ops rest k htd
      rw [htd] at h
      obtain ⟨L, k', _, _, ⟨done, hd⟩, _⟩ := h
      split at hr
      · rename_i fn ps hfn hps
        rw [hd.plan] at hps
        cases hps
        intro fn' hf' j hj
        rw [hfn] at hf'; cases hf'
        exact hd.rel j fun q hq _ e => disj_mem hr (by simp [hq]) e hj
      · cases hr
    · rename_i hno
      cases htd : fr.todo with
      | nil => rw [htd] at h; exact resR.of h.2.2
      | cons x k =>
        rw [htd] at h
        cases x with
        | reg ops dr' rest =>
          cases dr' with
          | true => exact absurd htd (hno _ _ _)
          | false =>
            obtain ⟨L, k', _, _, hd, _⟩ := h
            exact resR.of hd.2.2
        | inRangeFunc l => obtain ⟨_, _, _, _, _, ht⟩ := h; exact resR.of ht
        | _ => exact resR.of h.2.2

end
end Go.AE
