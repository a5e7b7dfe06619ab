/-
  A drawn region: the abstract machine's step ahead, the model's step behind.
-/
import Derived.Test.YtglmnkoophfllaaGreatDoorAEReg
namespace Go.AE
open Go

/-- What a step keeps of the memory below a bound. -/
structure Keep (b : Nat) (m m' : MP) (H H' : AH) : Prop where
  ext : Ext m m'
  next : H.next ≤ H'.next
  old : ∀ x, x < b → m x = none → m' x = none ∧ H'.get x = H.get x
theorem Keep.refl (b : Nat) (m : MP) (H : AH) : Keep b m m H H := ⟨Ext.refl m, Nat.le_refl _, fun _ _ h => ⟨h, rfl⟩⟩
theorem Keep.trans {b : Nat} {m m1 m2 : MP} {H H1 H2 : AH} (h : Keep b m m1 H H1) (h' : Keep b m1 m2 H1 H2) : Keep b m m2 H H2 :=
  ⟨h.ext.trans h'.ext, Nat.le_trans h.next h'.next, fun x hx hm => let ⟨a1, a2⟩ := h.old x hx hm; let ⟨b1, b2⟩ := h'.old x hx a1; ⟨b1, b2.trans a2⟩⟩
theorem Keep.le {b b' : Nat} {m m' : MP} {H H' : AH} (h : Keep b m m' H H') (hb : b' ≤ b) : Keep b' m m' H H' := ⟨h.ext, h.next, fun x hx => h.old x (Nat.lt_of_lt_of_le hx hb)⟩
theorem Grow.keep {m m' : MP} {H H' : AH} (h : Grow m m' H H') : Keep H.next m m' H H' := ⟨h.ext, h.next, fun x hx hm => h.old x hm hx⟩

section
variable {P : Program} {w0 : World} {m m' : MP} {H H' : AH} {w w' : World} {ops : Array Oper} {t : T AV} {tmps : Array Value}

theorem sem_plain {b : Frame} {ρ : Operand → Value} {o : Oper} (hb : b.roundOf = none ∨ ∀ c, o.op ≠ .defer c) : o.semAt b.roundOf ρ = execOp ρ o := by
  rcases hb with hb | hb
  · rw [hb, Oper.semAt_none]
  · exact Oper.semAt_eq _ _ _ hb
theorem pure_nodefer {H : AH} {t : T AV} {o : Oper} {v : AV} (h : apure P H t o = some v) : ∀ c, o.op ≠ .defer c := by
  intro c e; simp [apure, e] at h
theorem fresh_nodefer {t : T AV} {o : Oper} {x : Fresh} (h : afresh P t o = some x) : ∀ c, o.op ≠ .defer c := by
  intro c e; simp [afresh, e] at h

theorem step_one {b : Frame} {a : Act} {k : List Item} {cs : List Frame} {i : Nat} {rest : List Nat} {o : Oper} {u : Value} (hb : b.roundOf = none ∨ ∀ c, o.op ≠ .defer c) (ho : ops[i]? = some o)
    (h : (Region.wanted o (yielded ops a.tmps) = false ∧ u = undef ∧ w' = w) ∨
      (Region.wanted o (yielded ops a.tmps) = true ∧ ((execOp a.eval o).run P w = .ok (.value u) w' ∨ (execOp a.eval o).run P w = .ok .skip w' ∧ u = undef))) :
    step P (lone (b.atR a (.inRegion ops (i :: rest) :: k)) cs w) = .next (lone (b.atR (a.put o.dst u) (.inRegion ops rest :: k)) cs w') := by
  rcases h with ⟨h1, rfl, rfl⟩ | ⟨h1, h2⟩
  · have := stepR_op_skip (P := P) (b := b) (a := a) (k := k) (cs := cs) (w := w') (ops := ops) (i := i) (rest := rest) (by simp [ho, h1])
    simpa [ho] using this
  · have hg := stepGR_op (P := P) (b := b) (k := k) (cs := cs) (w := w) (rest := rest) ho h1
    rw [sem_plain hb] at hg
    have hfin : ∀ v, (b.atR a (.inRegion ops (i :: rest) :: k)).finish v = b.atR (a.put o.dst v) (.inRegion ops rest :: k) := by
      intro v; rw [Frame.finish_atR, ho]; rfl
    refine step_lone_go ?_
    rcases h2 with h2 | ⟨h2, rfl⟩
    · rw [hg, ← hfin]; simp [stepG.apply, h2]
    · rw [hg, ← hfin]; simp [stepG.apply, h2]

theorem step_skip {b : Frame} {a : Act} {k : List Item} {cs : List Frame} {i : Nat} {rest : List Nat} {o : Oper} {u : Value} (ho : ops[i]? = some o)
    (h : Region.wanted o (yielded ops a.tmps) = false ∧ u = undef ∧ w' = w) :
    step P (lone (b.atR a (.inRegion ops (i :: rest) :: k)) cs w) = .next (lone (b.atR (a.put o.dst u) (.inRegion ops rest :: k)) cs w') := by
  obtain ⟨h1, rfl, rfl⟩ := h
  have := stepR_op_skip (P := P) (b := b) (a := a) (k := k) (cs := cs) (w := w') (ops := ops) (i := i) (rest := rest) (by simp [ho, h1])
  simpa [ho] using this

variable {lo hi size : Nat} {sus : Bool} {done rest : List PStep} {L : List Nat}

theorem get_new (H : AH) (o : AObj) (b : Nat) : (H.new o).get b = if b = H.next then some o else H.get b := by
  simp [AH.get, AH.new, T.get_set]

/-- The guard of an operation isn't written by a later one. -/
theorem PlanOk.guardNe {l : List Oper} {p q : PStep} (ok : PlanOk l (done ++ p :: rest)) (hq : q ∈ done ∨ q = p) {j : Nat} {b : Bool} {g : Oper} {d : Nat}
    (hg : q.o.guard = some (j, b)) (ho : l[j]? = some g) (hd : g.dst = some d) : p.o.dst ≠ some d := by
  have : ∃ g' ∈ done, g'.i = j := by
    rcases hq with hq | rfl
    · obtain ⟨d1, d2, rfl⟩ := List.append_of_mem hq
      have ok' : PlanOk l (d1 ++ q :: (d2 ++ p :: rest)) := by simpa using ok
      obtain ⟨g', h1, h2⟩ := ok'.facts.ancIn j (ok'.facts.guard j b hg)
      exact ⟨g', by simp [h1], h2⟩
    · exact ok.facts.ancIn j (ok.facts.guard j b hg)
  obtain ⟨g', h1, h2⟩ := this
  have hat := ok.at_ g' (by simp [h1])
  rw [h2, ho] at hat
  cases hat
  exact (ok.before h1).dst d hd

theorem Draw.quiet {p : PStep} {d hi' : Nat} {v : AV} (h : Draw P m H lo hi size ops false t tmps done (p :: rest) L) (ha : p.act = false) (hd : p.o.dst = some d) (hlt : d < size)
    (hmono : ∀ b o, H.get b = some o → H'.get b = some o) (hhi : hi ≤ hi')
    (hv : (awanted ops t p.o = false ∧ v = .und) ∨ (awanted ops t p.o = true ∧ ((qcls P p.o.op = .pure ∧ apure P H t p.o = some v) ∨
      ∃ x, qcls P p.o.op = .fresh ∧ afresh P t p.o = some x ∧ v = x.val H.next ∧ H'.get H.next = some x.obj)))
    (hn : H.get H.next = none) (hm : m H.next = none) (hlo : lo ≤ H.next) (hlt' : awanted ops t p.o = true → qcls P p.o.op = .fresh → H.next < hi') :
    Draw P m H' lo hi' size ops false (t.set d (some v)) tmps (done ++ [p]) rest L := by
  have ok := h.ok
  have hpL := h.rin p (by simp)
  have hget : ∀ j, j ≠ d → tget (t.set d (some v)) j = tget t j := fun j hj => by rw [tget_set]; simp [hj]
  have hself : tget (t.set d (some v)) d = v := by rw [tget_set]; simp
  have haw : ∀ q, q ∈ done ∨ q = p → awanted ops (t.set d (some v)) q.o = awanted ops t q.o := fun q hq =>
    awanted_agree fun j b g dg hg ho hdg => hget dg fun e => ok.guardNe hq hg (by simpa using ho) hdg (e ▸ hd)
  have hagp : Ag (t.set d (some v)) t p.o.op.operands.toList := fun i hi' => hget i fun e => by
    obtain ⟨d', e1, e2⟩ := ok.facts.dst ha
    rw [hd] at e1; cases e1; exact e2 (e ▸ hi')
  obtain ⟨X, hX, hinj⟩ := h.pend
  have hqact : ∀ q ∈ done, q.i ∈ L → q.act = false := fun q hq hqL => by
    cases hqa : q.act with
    | false => rfl
    | true => exact absurd hqL (h.aout q hq hqa)
  refine ⟨by rw [List.append_assoc]; exact h.plan, h.linv, fun q hq => h.rin q (by simp [hq]), fun q hq hqa => ?_, fun j hj => ?_, fun i => if i = p.i then H.next else X i, ?_, ?_⟩
  · rcases List.mem_append.1 hq with hq | hq
    · exact h.aout q hq hqa
    · simp at hq; subst hq; rw [ha] at hqa; cases hqa
  · rw [hget j fun e => hj p (by simp) hpL (e ▸ hd)]
    exact h.rel j fun q hq => hj q (by simp [hq])
  · intro q hq hqL
    rcases List.mem_append.1 hq with hq | hq
    · have hb := ok.before hq
      have hne : q.i ≠ p.i := hb.ne
      obtain ⟨dq, h1, h2, h3⟩ := hX q hq hqL
      have hdq : dq ≠ d := fun e => hb.dst dq h1 (e ▸ hd)
      have hag : Ag (t.set d (some v)) t q.o.op.operands.toList := fun i hi' => hget i fun e => by
        have := (hb.write (hqact q hq hqL) d hd (e ▸ hi')).1
        rw [ha] at this; cases this
      refine ⟨dq, h1, h2, ?_⟩
      rw [haw q (.inl hq), hget dq hdq]
      refine h3.imp id fun ⟨e1, e2⟩ => ⟨e1, ?_⟩
      rcases e2 with ⟨e2, e3⟩ | ⟨x, e2, e3, e4, e5, e6, e7, e8⟩
      · refine .inl ⟨e2, e3.imp id fun e3 => ?_⟩
        rw [apure_congr hag]; exact apure_mono hmono e3
      · refine .inr ⟨x, e2, by rw [afresh_congr hag]; exact e3, ?_⟩
        simp only [if_neg hne]
        exact ⟨e4, hmono _ _ e5, e6, e7, Nat.lt_of_lt_of_le e8 hhi⟩
    · simp at hq; subst hq
      refine ⟨d, hd, hlt, ?_⟩
      rw [haw q (.inr rfl), hself]
      refine hv.imp id fun ⟨e1, e2⟩ => ⟨e1, ?_⟩
      rcases e2 with ⟨e2, e3⟩ | ⟨x, e2, e3, e4, e5⟩
      · exact .inl ⟨e2, .inr (by rw [apure_congr hagp]; exact apure_mono hmono e3)⟩
      · refine .inr ⟨x, e2, by rw [afresh_congr hagp]; exact e3, ?_⟩
        simp only [if_true]
        exact ⟨e4, e5, hm, hlo, hlt' e1 e2⟩
  · intro q1 q2 hq1 hq2 hl1 hl2 hf1 hf2 hw1 hw2 he
    have hold : ∀ q ∈ done, q.i ∈ L → qcls P q.o.op = .fresh → awanted ops (t.set d (some v)) q.o = true → X q.i ≠ H.next := by
      intro q hq hqL hf hw e
      obtain ⟨dq, h1, h2, h3⟩ := hX q hq hqL
      rw [haw q (.inl hq)] at hw
      rcases h3 with ⟨h3, _⟩ | ⟨_, ⟨h4, _⟩ | ⟨x, _, _, _, h5, _⟩⟩
      · rw [h3] at hw; cases hw
      · rw [h4] at hf; cases hf
      · rw [e, hn] at h5; cases h5
    rcases List.mem_append.1 hq1 with k1 | k1 <;> rcases List.mem_append.1 hq2 with k2 | k2
    · simp only [if_neg (ok.before k1).ne, if_neg (ok.before k2).ne] at he
      rw [haw q1 (.inl k1)] at hw1; rw [haw q2 (.inl k2)] at hw2
      exact hinj q1 q2 k1 k2 hl1 hl2 hf1 hf2 hw1 hw2 he
    · simp at k2
      have e2 : q2.i = p.i := by rw [k2]
      simp only [if_neg (ok.before k1).ne, if_pos e2] at he
      exact absurd he (hold q1 k1 hl1 hf1 hw1)
    · simp at k1
      have e2 : q1.i = p.i := by rw [k1]
      simp only [if_neg (ok.before k2).ne, if_pos e2] at he
      exact absurd he.symm (hold q2 k2 hl2 hf2 hw2)
    · simp at k1 k2; rw [k1, k2]

/-- The model comes to an operation that the abstract machine has done. -/
theorem Draw.one {q : PStep} (h : Draw P m H lo hi size ops false t tmps done rest (q.i :: L)) (hq : q ∈ done) (hs : tmps.size = size) (hr : HR P w0 m H w) (hG : GL P m) :
    ∃ m' w' u d, q.o.dst = some d ∧
      ((Region.wanted q.o (yielded ops tmps) = false ∧ u = undef ∧ w' = w) ∨
        (Region.wanted q.o (yielded ops tmps) = true ∧ (∀ c, q.o.op ≠ .defer c) ∧ ∀ df, (execOp (⟨tmps, df⟩ : Act).eval q.o).run P w = .ok (.value u) w')) ∧
      HR P w0 m' H w' ∧ Keep lo m m' H H ∧ Draw P m' H lo hi size ops false t (tmps.setIfInBounds d u) done rest L := by
  have ok := h.ok
  have hqm : q ∈ done ++ rest := by simp [hq]
  obtain ⟨hgd, hno⟩ := h.sees hqm
  have hwd := wanted_eq (ops := ops) (t := t) (tmps := tmps) hgd
  obtain ⟨X, hX, hinj⟩ := h.pend
  have hqa : q.act = false := by
    cases hqa : q.act with
    | false => rfl
    | true => exact absurd (by simp) (h.aout q hq hqa)
  obtain ⟨d, hd, hlt, hpv⟩ := hX q hq (by simp)
  have hnd := List.nodup_cons.1 h.linv.nodup
  -- what stands behind the step
  have after : ∀ (m' : MP) (u : Value), Ext m m' → conc m' (tget t d) = some u →
      (∀ p ∈ done, p.i ∈ L → qcls P p.o.op = .fresh → awanted ops t p.o = true → m (X p.i) = none → m' (X p.i) = none) →
      Draw P m' H lo hi size ops false t (tmps.setIfInBounds d u) done rest L := by
    intro m' u hext hu hfr
    refine ⟨h.plan, h.linv.tail, fun p hp => ?_, fun p hp hpa hpL => h.aout p hp hpa (by simp [hpL]), fun j hj => ?_, X, ?_, ?_⟩
    · rcases List.mem_cons.1 (h.rin p hp) with e | e
      · exfalso
        obtain ⟨r1, r2, rfl⟩ := List.append_of_mem hp
        have ok' : PlanOk ops.toList ((done ++ r1) ++ p :: r2) := by simpa using ok
        exact (ok'.before (q := q) (by simp [hq])).ne e.symm
      · exact e
    · rw [getD_set _ _ _ _ (hs ▸ hlt)]
      by_cases e : j = d
      · subst e; simpa using hu
      · rw [if_neg e]
        refine conc_mono hext _ _ (h.rel j fun p hp hpL => ?_)
        rcases List.mem_cons.1 hpL with e1 | e1
        · have := ok.eq (p := q) (q := p) (by simp [hp]) hqm e1
          subst this
          intro e2; rw [hd] at e2; cases e2; exact e rfl
        · exact hj p hp e1
    · intro p hp hpL
      obtain ⟨dp, h1, h2, h3⟩ := hX p hp (by simp [hpL])
      refine ⟨dp, h1, h2, h3.imp id fun ⟨e1, e2⟩ => ⟨e1, e2.imp id fun ⟨x, e2, e3, e4, e5, e6, e7, e8⟩ => ⟨x, e2, e3, e4, e5, hfr p hp hpL e2 e1 e6, e7, e8⟩⟩⟩
    · exact fun p1 p2 hp1 hp2 hl1 hl2 => hinj p1 p2 hp1 hp2 (by simp [hl1]) (by simp [hl2])
  -- what it reads is in sight
  have hop : ∀ i ∈ tmpsIn q.o.op.operands.toList, i ∉ pendD done (q.i :: L) := by
    intro i hi' hm
    obtain ⟨p, hp, hpL, hpd⟩ := mem_pendD.1 hm
    have hpa : p.act = false := by
      cases hpa : p.act with
      | false => rfl
      | true => exact absurd hpL (h.aout p hp hpa)
    have hnot := hno p hp hpL
    rcases ok.or (q := p) (p := q) (by simp [hp]) hqm with e | e | e
    · subst e
      obtain ⟨dn, f, _⟩ := ok.facts' hqm
      obtain ⟨d', e1, e2⟩ := f.dst hqa
      rw [hpd] at e1; cases e1; exact e2 hi'
    · exact hnot (e.read hpa i hpd hi')
    · have := (e.write hqa i hpd hi').1
      rw [hpa] at this; cases this
  have hTR : TR m (patchT t (pendD done (q.i :: L))) (⟨patchA tmps (pendD done (q.i :: L)), []⟩ : Act).tmps :=
    patch_TR fun j hj => h.rel j fun p hp hpL e => hj (mem_pendD.2 ⟨p, hp, hpL, e⟩)
  have hAg : Ag t (patchT t (pendD done (q.i :: L))) q.o.op.operands.toList := patch_Ag hop
  rcases hpv with ⟨e1, e2⟩ | ⟨e1, ⟨e2, e3⟩ | ⟨x, e2, e3, e4, e5, e6, e7, e8⟩⟩
  · refine ⟨m, w, undef, d, hd, .inl ⟨by rw [hwd, e1], rfl, rfl⟩, hr, Keep.refl _ _ _, after m undef (Ext.refl m) (by rw [e2]; rfl) fun _ _ _ _ _ h => h⟩
  · have e3 := e3.resolve_left (by simp)
    have e4 := e3
    rw [apure_congr hAg] at e4
    obtain ⟨u, hu, hc⟩ := apure_sound hr hG hTR e4
    refine ⟨m, w, u, d, hd, .inr ⟨by rw [hwd, e1], pure_nodefer e3, fun df => ?_⟩, hr, Keep.refl _ _ _, after m u (Ext.refl m) hc fun _ _ _ _ _ h => h⟩
    rw [patch_exec (cls_noselect e3) hop df []]; exact hu
  · have e3' := e3
    rw [afresh_congr hAg] at e3'
    obtain ⟨obj, u, δ, n, hu, hc, ho⟩ := afresh_sound (w := w) hG hTR e3' e6
    refine ⟨upd m (X q.i) ⟨w.heap.size, 0, δ⟩, _, u, d, hd, .inr ⟨by rw [hwd, e1], fresh_nodefer e3, fun df => ?_⟩, (hr.mapIn e5 e6 ho).drew n, ⟨Ext.upd e6 _, Nat.le_refl _, fun b hb hm => ⟨?_, rfl⟩⟩,
      after _ u (Ext.upd e6 _) (by rw [e4]; exact hc) fun p hp hpL hf hw hm => ?_⟩
    · rw [patch_exec (fresh_noselect e3) hop df []]; exact hu
    · rw [upd_other]; exact hm; omega
    · rw [upd_other]; exact hm
      intro e
      have := hinj p q hp hq (by simp [hpL]) (by simp) hf e2 hw e1 e
      rw [this] at hpL; exact hnd.1 hpL

/-- The model catches up: to the next active operation, or to the region's end. -/
theorem Draw.catch : ∀ (L : List Nat) {m : MP} {w : World} {tmps : Array Value}, Draw P m H lo hi size ops false t tmps done rest L → tmps.size = size → HR P w0 m H w → GL P m →
    (rest = [] ∨ ∃ p r, rest = p :: r ∧ p.act = true) → ∀ (b : Frame) (df : List Deferred) (k : List Item) (cs : List Frame),
    ∃ m' w' tmps' L', Steps P (lone (b.atR ⟨tmps, df⟩ (.inRegion ops L :: k)) cs w) (lone (b.atR ⟨tmps', df⟩ (.inRegion ops L' :: k)) cs w') ∧
      Draw P m' H lo hi size ops false t tmps' done rest L' ∧ tmps'.size = size ∧ HR P w0 m' H w' ∧ Keep lo m m' H H ∧
      (rest = [] → L' = []) ∧ ∀ p r, rest = p :: r → ∃ L2, L' = p.i :: L2
  | [], m, w, tmps, h, hs, hr, hG, hrest, b, df, k, cs => by
    refine ⟨m, w, tmps, [], Steps.refl _ _, h, hs, hr, Keep.refl _ _ _, fun _ => rfl, fun p r e => ?_⟩
    have := h.rin p (by simp [e])
    simp at this
  | i :: L, m, w, tmps, h, hs, hr, hG, hrest, b, df, k, cs => by
    by_cases hstop : ∃ p r, rest = p :: r ∧ p.i = i
    · obtain ⟨p, r, e, e2⟩ := hstop
      refine ⟨m, w, tmps, i :: L, Steps.refl _ _, h, hs, hr, Keep.refl _ _ _, fun e' => ?_, fun p' r' e' => ?_⟩
      · rw [e'] at e; cases e
      · rw [e] at e'; cases e'; exact ⟨L, by rw [e2]⟩
    · have hhd : ∃ q ∈ done, q.i = i := h.head_done (hrest.imp id fun ⟨p, r, e, ha⟩ => ⟨p, r, e, ha, fun e2 => hstop ⟨p, r, e, e2⟩⟩)
      obtain ⟨q, hq, rfl⟩ := hhd
      obtain ⟨m1, w1, u, d, hd, hrun, hr1, hk1, h1⟩ := h.one hq hs hr hG
      have ho : ops[q.i]? = some q.o := by have := h.ok.at_ q (by simp [hq]); simpa using this
      have hst : step P (lone (b.atR ⟨tmps, df⟩ (.inRegion ops (q.i :: L) :: k)) cs w) = .next (lone (b.atR ((⟨tmps, df⟩ : Act).put q.o.dst u) (.inRegion ops L :: k)) cs w1) := by
        rcases hrun with ⟨e1, e2, e3⟩ | ⟨e1, e2, e3⟩
        · exact step_skip ho ⟨e1, e2, e3⟩
        · exact step_one (.inr e2) ho (.inr ⟨e1, .inl (e3 df)⟩)
      simp only [Act.put, hd] at hst
      obtain ⟨m2, w2, tmps2, L2, hst2, h2, hs2, hr2, hk2, h3, h4⟩ := Draw.catch L h1 (by simpa using hs) hr1 (hG.mono hk1.ext) hrest b df k cs
      exact ⟨m2, w2, tmps2, L2, .head hst hst2, h2, hs2, hr2, hk1.trans hk2, h3, h4⟩

end
end Go.AE
