/-
  One operation of the abstract machine's, against the model's step.
-/
import Derived.Test.YtglmnkoophfllaaGreatDoorAEStep3
namespace Go.AE
open Go

section steps
variable {P : Program} {w w' : World} {ops : Array Oper} {b : Frame} {a : Act} {k : List Item} {cs : List Frame} {i : Nat} {rest : List Nat} {o : Oper}

theorem step_op_enter {f : Nat} {args : Array Value} (hb : b.roundOf = none ∨ ∀ c, o.op ≠ .defer c) (ho : ops[i]? = some o) (hw : Region.wanted o (yielded ops a.tmps) = true) (hr : (execOp a.eval o).run P w = .ok (.enter f args) w') :
    step P (lone (b.atR a (.inRegion ops (i :: rest) :: k)) cs w) = .next (lone (Frame.enter P f args .normal) (b.atR a (.inRegion ops (i :: rest) :: k) :: cs) w') := by
  have hg := stepGR_op (P := P) (b := b) (k := k) (cs := cs) (w := w) (rest := rest) ho hw
  rw [sem_plain hb] at hg
  exact step_lone_go (by rw [hg]; simp [stepG.apply, hr, Frame.atR])

theorem step_op_round {l f : Nat} {tm : Array Value} {as body : Code} (hb : b.roundOf = none ∨ ∀ c, o.op ≠ .defer c) (ho : ops[i]? = some o) (hw : Region.wanted o (yielded ops a.tmps) = true) (hr : (execOp a.eval o).run P w = .ok (.round l f tm as body) w') :
    step P (lone (b.atR a (.inRegion ops (i :: rest) :: k)) cs w) = .next (lone (Frame.round l f tm as body .normal) (b.atR a (.inRegion ops (i :: rest) :: k) :: cs) w') := by
  have hg := stepGR_op (P := P) (b := b) (k := k) (cs := cs) (w := w) (rest := rest) ho hw
  rw [sem_plain hb] at hg
  exact step_lone_go (by rw [hg]; simp [stepG.apply, hr, Frame.atR])

theorem step_op_defer {d : Deferred} (hb : b.roundOf = none) (ho : ops[i]? = some o) (hw : Region.wanted o (yielded ops a.tmps) = true) (hr : (execOp a.eval o).run P w = .ok (.defer d) w') :
    step P (lone (b.atR a (.inRegion ops (i :: rest) :: k)) cs w) = .next (lone (b.atR ((⟨a.tmps, d :: a.defers⟩ : Act).put o.dst undef) (.inRegion ops rest :: k)) cs w') := by
  have hg := stepGR_op (P := P) (b := b) (k := k) (cs := cs) (w := w) (rest := rest) ho hw
  rw [hb, Oper.semAt_none] at hg
  have : ({ b.atR a (.inRegion ops (i :: rest) :: k) with defers := d :: a.defers } : Frame).finish undef =
      b.atR ((⟨a.tmps, d :: a.defers⟩ : Act).put o.dst undef) (.inRegion ops rest :: k) := by
    have := Frame.finish_atR b ⟨a.tmps, d :: a.defers⟩ ops i rest k undef
    rw [ho] at this; exact this
  refine step_lone_go ?_
  rw [hg]; simp only [stepG.apply, Sem.runT_eq, hr, GStep.bare_after]
  exact congrArg (fun fr => GStep.go { frame := fr, callers := cs, status := .running, dying := none } w') this

theorem step_op_panic {v : Value} (hb : b.roundOf = none ∨ ∀ c, o.op ≠ .defer c) (ho : ops[i]? = some o) (hw : Region.wanted o (yielded ops a.tmps) = true) (hr : (execOp a.eval o).run P w = .halt (.panic v) w') :
    step P (lone (b.atR a (.inRegion ops (i :: rest) :: k)) cs w) = .next (lone { b.atR a (.inRegion ops (i :: rest) :: k) with mode := .panicking [{ v, recovered := false }] } cs w') := by
  have hg := stepGR_op (P := P) (b := b) (k := k) (cs := cs) (w := w) (rest := rest) ho hw
  rw [sem_plain hb] at hg
  refine step_lone_go ?_
  rw [hg, ← Frame.raise_atR]; simp [stepG.apply, hr]

theorem step_op_recover (hb : b.roundOf = none) (hkd : b.kind = .deferred) (ho : ops[i]? = some o) (hw : Region.wanted o (yielded ops a.tmps) = true) (hr : (execOp a.eval o).run P w = .ok .recover w') {v : Value} {cs' : List Frame}
    (hrec : recoverD cs = some (v, cs') ∨ recoverD cs = none ∧ v = .nilIface ∧ cs' = cs) :
    step P (lone (b.atR a (.inRegion ops (i :: rest) :: k)) cs w) = .next (lone (b.atR (a.put o.dst v) (.inRegion ops rest :: k)) cs' w') := by
  have hg := stepGR_op (P := P) (b := b) (k := k) (cs := cs) (w := w) (rest := rest) ho hw
  rw [hb, Oper.semAt_none] at hg
  have hfin : ∀ v, (b.atR a (.inRegion ops (i :: rest) :: k)).finish v = b.atR (a.put o.dst v) (.inRegion ops rest :: k) := by
    intro v; rw [Frame.finish_atR, ho]; rfl
  have hk : (b.atR a (.inRegion ops (i :: rest) :: k)).kind = .deferred := hkd
  have htr := tryRecover_deferred hk cs
  refine step_lone_go ?_
  rcases hrec with hrec | ⟨hrec, rfl, rfl⟩
  · rw [hg, ← hfin]
    simp only [Frame.atR, hb] at htr ⊢
    simp [stepG.apply, hr, htr, hrec]
  · rw [hg, ← hfin]
    simp only [Frame.atR, hb] at htr ⊢
    simp [stepG.apply, hr, htr, hrec]
end steps

section
variable {P : Program} {w0 : World} {m m' : MP} {H H' : AH} {w w' : World} {ops : Array Oper} {t t' : T AV} {tmps : Array Value} {lo hi size : Nat} {dr sus : Bool} {rest : List PStep} {L : List Nat}
variable {am am' : AM} {c : Frame} {cs base : List Frame} {p : PStep} {k : List AItem}

def Cls.isA : Cls → Bool
  | .active => true
  | _ => false
theorem isAct_of {o : Oper} {k : Cls} (h : qcls P o.op = k) : isAct o = k.isA := by
  subst h
  unfold isAct
  obtain ⟨dst, op, type, pos, after, guard⟩ := o
  cases op
  case convert src dst' x =>
    simp only [qcls, cls]
    split <;> rfl
  all_goals
    simp only [qcls]
    split
    · rename_i e; rw [e]; rfl
    · rename_i e
      revert e
      generalize cls _ = k
      intro e
      cases k <;> first | rfl | exact absurd rfl e

theorem draw_act (h : St P w0 am c cs w m lo) (hrun : am.fr.mode = .run) (htd : am.fr.todo = .reg ops true (p :: rest) :: k) : p.act = isAct p.o := by
  obtain ⟨h1, h2⟩ := h.todo hrun
  rw [htd] at h2
  obtain ⟨L, k', e1, e2, ⟨done, e3⟩, _⟩ := h2
  exact e3.ok.facts.act

theorem act_nodefer {o : Oper} {r : AR} (h : aact P H t o = some r) (hr : ∀ d, r ≠ .defer d) : ∀ c, o.op ≠ .defer c := by
  intro c e
  simp only [aact, e] at h
  repeat' split at h
  all_goals first
    | (cases h; done)
    | (cases h; exact hr _ rfl)

theorem setArgs_sound {m : MP} : ∀ {ps : List Tmp} {args : List AV} {us : List Value} {t t' : T AV} {tmps : Array Value} {size : Nat}, setArgs size ps args t = some t' → concL m args = some us → TR m t tmps → tmps.size = size →
    ps.length = us.length ∧ TR m t' ((ps.zip us).foldl (fun tm (x : Tmp × Value) => tm.setIfInBounds x.1 x.2) tmps) ∧ ((ps.zip us).foldl (fun tm (x : Tmp × Value) => tm.setIfInBounds x.1 x.2) tmps).size = size
  | [], [], us, t, t', tmps, size, h, hc, ht, hs => by
    simp [setArgs] at h; subst h
    have := concL_nil.1 hc; subst this
    exact ⟨rfl, ht, hs⟩
  | p :: ps, v :: vs, us, t, t', tmps, size, h, hc, ht, hs => by
    obtain ⟨u, us', rfl, h1, h2⟩ := concL_cons.1 hc
    unfold setArgs at h
    split at h
    · rename_i hlt
      have hlt : p < tmps.size := by rw [hs]; simpa using hlt
      have ht' : TR m (t.set p (some v)) (tmps.setIfInBounds p u) := by
        intro j
        rw [tget_set, getD_set _ _ _ _ hlt]
        by_cases e : j = p
        · simp [e, h1]
        · simp only [if_neg e]; exact ht j
      obtain ⟨a1, a2, a3⟩ := setArgs_sound h h2 ht' (by simpa using hs)
      exact ⟨by simp [a1], a2, a3⟩
    · cases h
  | [], _ :: _, _, _, _, _, _, h, _, _, _ => by simp [setArgs] at h
  | _ :: _, [], _, _, _, _, _, h, _, _, _ => by simp [setArgs] at h

theorem round_goes {l : Nat} {args : List AV} (h : St P w0 am c cs w m lo) (hrun : am.fr.mode = .run) (htd : am.fr.todo = .reg ops dr (p :: rest) :: k) (ha : dr = true → p.act = true)
    {m1 : MP} {w1 : World} {tm1 : Array Value} {L2 : List Nat} {k' : List Item} (hk : KR m1 k k') (hx1 : Ext m m1)
    (hs : Steps P (lone c (cs ++ base) w) (lone (c.atR ⟨tm1, c.defers⟩ (.inRegion ops (p.i :: L2) :: k')) (cs ++ base) w1))
    (hreg : RegR P m1 am.H lo am.H.next am.fr.size ops dr false (p :: rest) am.fr.tmps tm1 (p.i :: L2)) (hz : tm1.size = am.fr.size) (hr1 : HR P w0 m1 am.H w1) (hk1 : Keep lo m m1 am.H am.H)
    (hact : aact P am.H am.fr.tmps p.o = some (.round l args)) (hok : AOk P w0 m1 am.H w1 (.round l args) ((execOp (⟨tm1, c.defers⟩ : Act).eval p.o).run P w1))
    (ho : ops[p.i]? = some p.o) (hw1 : Region.wanted p.o (yielded ops tm1) = true)
    (he : (match am.H.get l with
      | some (.loop _ _ fn size tmps ps as body _) => match setArgs size ps.toList args tmps with
        | some t => some (⟨{ fn, size, tmps := t, todo := [.code as, .beginRound, .code body], defers := [], mode := .run, kind := .normal, roundOf := some l }, am.fr :: am.cs, am.H⟩ : AM)
        | none => none
      | _ => none) = some am') : Goes P w0 am' c cs base w := by
  split at he
  · rename_i st pe fn sz tm ps as body ds hobj
    split at he
    · rename_i t2 hset
      cases he
      obtain ⟨y, us, hy, hrun', hc⟩ := hok
      obtain ⟨r, r1, r2, r3, r4, r5, r6, r7, r8, r9, _⟩ := turn_loop hr1 hobj hy
      obtain ⟨a1, a2, a3⟩ := setArgs_sound hset hc r6 r5
      have hyield : (Instr.yield y.c us).run P w1 = .ok (.round y.c r.fn ((r.params.zip us).foldl (fun tmps (x : Tmp × Value) => tmps.setIfInBounds x.1 x.2) r.tmps) r.assign r.body) w1 := by
        have hsz : us.size = r.params.size := by rw [r7]; simpa using a1.symm
        simp [Instr.yield, run_getLoop r1, hsz]
      rw [hyield] at hrun'
      have hst := step_op_round (P := P) (b := c) (a := ⟨tm1, c.defers⟩) (k := k') (cs := cs ++ base) (rest := L2) (.inr (act_nodefer hact (by simp))) ho hw1 hrun'
      have htm : ((r.params.zip us).foldl (fun tmps (x : Tmp × Value) => tmps.setIfInBounds x.1 x.2) r.tmps) = ((ps.toList.zip us.toList).foldl (fun tm (x : Tmp × Value) => tm.setIfInBounds x.1 x.2) r.tmps) := by
        rw [r7, ← Array.foldl_toList]; simp
      rw [htm, r8, r9, r4] at hst
      refine ⟨_, c.atR ⟨tm1, c.defers⟩ (.inRegion ops (p.i :: L2) :: k') :: cs, w1, m1, am.H.next, Steps.trans hs (.one hst), hr1, h.gl.mono hx1, Nat.le_refl _, ⟨rfl, rfl, ⟨y, hy, rfl⟩, a3, trivial, ?_⟩, ?_⟩
      · unfold MR
        exact ⟨rfl, TodoR.of (KR.cc (.cons (y := .beginRound) (by simp [IRel]) (KR.cc .nil))) a2⟩
      · refine .cons (Nat.le_refl _) h.le ⟨h.fr.fn, h.fr.kind, h.fr.ro.mono hx1, hz, h.fr.defers.mono hx1, ?_⟩ (h.cs.keep (Nat.le_refl _) hk1)
        unfold MR
        simp only [hrun]
        refine ⟨rfl, ?_⟩
        rw [htd]
        exact ⟨_, k', rfl, hk, hreg.susp (Nat.le_refl _), fun _ => ⟨p, rest, L2, rfl, ha, rfl⟩⟩
    · cases he
  · cases he

theorem aoper_sound (h : St P w0 am c cs w m lo) (hrun : am.fr.mode = .run) (htd : am.fr.todo = .reg ops dr (p :: rest) :: k) (he : aoper P am.fr am.cs am.H ops p = some am') : Goes P w0 am' c cs base w := by
  unfold aoper at he
  split at he
  · rename_i haw
    split at he
    · rename_i fr' hf
      cases he
      by_cases hq : dr = true ∧ p.act = false
      · obtain ⟨rfl, hq⟩ := hq
        exact quiet_goes h hrun htd hq (fun _ _ e => e) (Nat.le_refl _) (fun _ _ => rfl) (.inl ⟨haw, rfl⟩) (fun hw => by rw [haw] at hw; cases hw) h.hr hf
      · have ha : dr = true → p.act = true := fun e => by
          cases hpa : p.act with
          | true => rfl
          | false => exact absurd ⟨e, hpa⟩ hq
        obtain ⟨m1, w1, tm1, L2, k', hk, hs, hreg, hz, hr1, hk1⟩ := toHead h hrun htd ha base
        obtain ⟨ho, hwd, _⟩ := hreg.ready ha
        exact finish_goes h hrun htd ha hk hk1.ext hs hreg hz (ads := am.fr.defers) (Keep.refl _ _ _) hr1 (h.gl.mono hk1.ext) (v := .und) (u := undef) rfl
          (step_skip ho ⟨by rw [hwd, haw], rfl, rfl⟩) hf (h.fr.defers.mono hk1.ext) (h.cs.keep (Nat.le_refl _) hk1)
    · cases he
  · rename_i haw
    split at he
    · -- pure
      rename_i hcls
      split at he
      · cases he
      · rename_i v hv
        split at he
        · rename_i fr' hf
          cases he
          cases dr with
          | true =>
            have ha : p.act = false := by rw [draw_act h hrun htd]; exact isAct_of hcls
            exact quiet_goes h hrun htd ha (fun _ _ e => e) (Nat.le_refl _) (fun _ _ => rfl) (.inr ⟨haw, .inl ⟨hcls, hv⟩⟩) (fun _ hc => by rw [hcls] at hc; cases hc) h.hr hf
          | false =>
            have ha : false = true → p.act = true := fun e => by cases e
            obtain ⟨m1, w1, tm1, L2, k', hk, hs, hreg, hz, hr1, hk1⟩ := toHead h hrun htd ha base
            obtain ⟨ho, hwd, t2, A, hTR, hAg, hex⟩ := hreg.ready ha
            have hv2 := hv
            rw [apure_congr hAg] at hv2
            obtain ⟨u, hu, hc⟩ := apure_sound (a := ⟨A, []⟩) hr1 (h.gl.mono hk1.ext) hTR hv2
            exact finish_goes h hrun htd ha hk hk1.ext hs hreg hz (ads := am.fr.defers) (Keep.refl _ _ _) hr1 (h.gl.mono hk1.ext) hc
              (step_one (.inr (pure_nodefer hv)) ho (.inr ⟨by rw [hwd, haw], .inl (by rw [hex (cls_noselect hv)]; exact hu)⟩)) hf (h.fr.defers.mono hk1.ext) (h.cs.keep (Nat.le_refl _) hk1)
        · cases he
    · -- fresh
      rename_i hcls
      split at he
      · cases he
      · rename_i x hx
        split at he
        · rename_i fr' hf
          cases he
          cases dr with
          | true =>
            have ha : p.act = false := by rw [draw_act h hrun htd]; exact isAct_of hcls
            have hnn : am.H.get am.H.next = none := h.hr.have_ _ (Nat.le_refl _)
            refine quiet_goes h hrun htd ha (H' := am.H.new x.obj) (fun b o e => ?_) (Nat.le_succ _) (fun b hb => ?_) (.inr ⟨haw, .inr ⟨x, hcls, hx, rfl, ?_⟩⟩) (fun _ _ => Nat.lt_succ_self _) (h.hr.newA _) hf
            · rw [get_new, if_neg]
              · exact e
              · intro e'; rw [e', hnn] at e; cases e
            · rw [get_new, if_neg]; exact Nat.ne_of_lt hb
            · rw [get_new]; simp
          | false =>
            have ha : false = true → p.act = true := fun e => by cases e
            obtain ⟨m1, w1, tm1, L2, k', hk, hs, hreg, hz, hr1, hk1⟩ := toHead h hrun htd ha base
            obtain ⟨ho, hwd, t2, A, hTR, hAg, hex⟩ := hreg.ready ha
            have hx2 := hx
            rw [afresh_congr hAg] at hx2
            obtain ⟨obj, u, δ, n, hu, hc, hor⟩ := afresh_sound (w := w1) (a := ⟨A, []⟩) (h.gl.mono hk1.ext) hTR hx2 hr1.fresh
            have hnew : (am.H.new x.obj).get am.H.next = some x.obj := by rw [get_new]; simp
            have hkp : Keep am.H.next m1 (upd m1 am.H.next ⟨w1.heap.size, 0, δ⟩) am.H (am.H.new x.obj) := by
              refine ⟨Ext.upd hr1.fresh _, Nat.le_succ _, fun b hb hm => ⟨?_, ?_⟩⟩
              · rw [upd_other _ _ (Nat.ne_of_lt hb)]; exact hm
              · rw [get_new, if_neg]; exact Nat.ne_of_lt hb
            exact finish_goes h hrun htd ha hk hk1.ext hs hreg hz (ads := am.fr.defers) hkp (((hr1.newA x.obj).mapIn hnew hr1.fresh hor).drew n) ((h.gl.mono hk1.ext).mono hkp.ext) hc
              (step_one (.inr (fresh_nodefer hx)) ho (.inr ⟨by rw [hwd, haw], .inl (by rw [hex (fresh_noselect hx)]; exact hu)⟩)) hf ((h.fr.defers.mono hk1.ext).mono hkp.ext)
              ((h.cs.keep (Nat.le_refl _) hk1).keep h.le hkp)
        · cases he
    · -- active
      rename_i hcls
      have ha : dr = true → p.act = true := fun e => by subst e; rw [draw_act h hrun htd]; exact isAct_of hcls
      obtain ⟨m1, w1, tm1, L2, k', hk, hs, hreg, hz, hr1, hk1⟩ := toHead h hrun htd ha base
      obtain ⟨ho, hwd, t2, A, hTR, hAg, hex⟩ := hreg.ready ha
      have hG1 := h.gl.mono hk1.ext
      have hcs1 := h.cs.keep (Nat.le_refl _) hk1
      have hds1 := h.fr.defers.mono hk1.ext
      have hw1 : Region.wanted p.o (yielded ops tm1) = true := by rw [hwd, haw]
      cases hact : aact P am.H am.fr.tmps p.o with
      | none => simp [hact] at he
      | some r =>
        have hact2 := hact
        rw [aact_congr hAg] at hact2
        have hok := aact_sound (a := ⟨A, []⟩) hr1 hG1 hTR hact2
        rw [← hex (act_noselect hact) c.defers] at hok
        rw [hact] at he
        cases r with
        | val v H' =>
          simp only at he
          split at he
          · rename_i fr' hf
            cases he
            obtain ⟨m', w', u, hrun', hc, hr', hgrow⟩ := hok
            exact finish_goes h hrun htd ha hk hk1.ext hs hreg hz (ads := am.fr.defers) hgrow.keep hr' (hG1.mono hgrow.ext) hc (step_one (.inr (act_nodefer hact (by simp))) ho (.inr ⟨hw1, hrun'⟩)) hf
              (hds1.mono hgrow.ext) (hcs1.keep h.le hgrow.keep)
          · cases he
        | enter f args =>
          simp only at he
          split at he
          · rename_i fr' hf
            cases he
            obtain ⟨as, hrun', hc⟩ := hok
            exact enter_goes h hrun htd ha hk hk1.ext hs hreg hz hr1 hk1 (step_op_enter (.inr (act_nodefer hact (by simp))) ho hw1 hrun') hf hc
          · cases he
        | round l args => exact round_goes h hrun htd ha hk hk1.ext hs hreg hz hr1 hk1 hact hok ho hw1 he
        | defer d =>
          simp only at he
          split at he
          · cases he
          rename_i hro
          have hcr := h.fr.ro
          rw [hro] at hcr
          have hcr := hcr.none'
          split at he
          · rename_i fr' hf
            cases he
            obtain ⟨e, hrun', hd⟩ := hok
            refine finish_goes h hrun htd ha hk hk1.ext hs hreg hz (ads := d :: am.fr.defers) (ds := e :: c.defers) (Keep.refl _ _ _) hr1 hG1 (v := .und) (u := undef) rfl
              (step_op_defer hcr ho hw1 hrun') (by rw [← hf]) ⟨hd, hds1⟩ hcs1
          · cases he
        | panic v =>
          simp only at he
          split at he
          · rename_i hmay
            cases he
            obtain ⟨u, hrun', hc⟩ := hok
            refine ⟨_, cs, w1, m1, lo, Steps.trans hs (.one (step_op_panic (.inr (act_nodefer hact (by simp))) ho hw1 hrun')), hr1, hG1, h.le, ⟨h.fr.fn, h.fr.kind, h.fr.ro.mono hk1.ext, hz, hds1, ?_⟩, hcs1⟩
            unfold MR
            refine ⟨_, rfl, ⟨hc, rfl, rfl, trivial⟩, ?_⟩
            refine raise_res (H := am.H) (lo := lo) (hi := am.H.next) (size := am.fr.size) (sus := false) (l := .inRegion ops (p.i :: L2) :: k') hmay ?_
            rw [htd]
            exact ⟨_, k', rfl, hk, hreg, by simp⟩
          · cases he
        | recover =>
          simp only at he
          have hrun' : (execOp (⟨tm1, c.defers⟩ : Act).eval p.o).run P w1 = .ok .recover w1 := hok
          split at he
          · rename_i ac acs hkind hro hacs
            have hcr := h.fr.ro
            rw [hro] at hcr
            have hcr := hcr.none'
            rw [hacs] at hcs1
            cases hcs1 with
            | cons g1 g2 g3 g4 =>
              rename_i lo2 hi2 c1 cs1
              have gm := g3.mode
              unfold MR at gm
              split at he
              · rename_i v older hmode
                split at he
                · rename_i fr' hf
                  cases he
                  rw [hmode] at gm
                  obtain ⟨ch, m1', m2', m3'⟩ := gm
                  cases ch with
                  | nil => exact m2'.elim
                  | cons e l' =>
                    obtain ⟨x1, x2, x3, x4⟩ := m2'
                    refine finish_goes h hrun htd ha hk hk1.ext hs hreg hz (ads := am.fr.defers) (Keep.refl _ _ _) hr1 hG1 x1 (cs' := { c1 with mode := .panicking ({ v := e.v, recovered := true } :: l') } :: cs1)
                      (step_op_recover hcr (h.fr.kind.trans hkind) ho hw1 hrun' (.inl ?_)) hf hds1 ?_
                    · obtain ⟨ev, er, eg⟩ := e
                      simp only at x2 x3
                      subst x2 x3
                      simp [recoverD, m1']
                    · refine .cons g1 g2 ⟨g3.fn, g3.kind, g3.ro, g3.size, g3.defers, ?_⟩ g4
                      unfold MR
                      exact ⟨_, rfl, ⟨x1, rfl, rfl, x4⟩, m3'⟩
                · cases he
              · rename_i hno
                split at he
                · rename_i fr' hf
                  cases he
                  refine finish_goes h hrun htd ha hk hk1.ext hs hreg hz (ads := am.fr.defers) (Keep.refl _ _ _) hr1 hG1 (v := .nilIface) (u := .nilIface) (by simp [conc]) (cs' := c1 :: cs1)
                    (step_op_recover hcr (h.fr.kind.trans hkind) ho hw1 hrun' (.inr ⟨?_, rfl, rfl⟩)) hf hds1 (.cons g1 g2 g3 g4)
                  unfold recoverD
                  simp only [List.cons_append]
                  split at gm
                  · rw [gm.1]
                  · rw [gm.1]
                  · rename_i ch hm'
                    obtain ⟨ch', m1', m2', m3'⟩ := gm
                    rw [m1']
                    cases ch' with
                    | nil => rfl
                    | cons e l' =>
                      cases ch with
                      | nil => exact m2'.elim
                      | cons q l =>
                        obtain ⟨x1, x2, x3, x4⟩ := m2'
                        obtain ⟨qv, qr⟩ := q
                        obtain ⟨ev, er, eg⟩ := e
                        simp only at x2 x3
                        subst x2 x3
                        cases er with
                        | true => rfl
                        | false => exact absurd hm' (hno _ _)
                · cases he
          · cases he

end
end Go.AE
