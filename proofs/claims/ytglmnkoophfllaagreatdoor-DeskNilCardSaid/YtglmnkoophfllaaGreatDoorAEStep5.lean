/-
  The abstract machine's way out of a frame, its step, its run.
-/
import Derived.Test.YtglmnkoophfllaaGreatDoorAEStep4
import Derived.RangeFuncLeaves
namespace Go.AE
open Go

section
variable {P : Program} {w0 : World} {m m' : MP} {H H' : AH} {w w' : World} {ops : Array Oper} {t t' : T AV} {tmps : Array Value} {lo hi size : Nat} {dr sus : Bool} {rest : List PStep} {L : List Nat}
variable {am am' : AM} {c : Frame} {cs base : List Frame} {p : PStep} {k : List AItem}

def resOne (tmps : Array Value) : ResultVar → Sem Value
  | .tmp t => pure (tmps.getD t undef)
  | .cell a t => do loadVar t (← asAddr (tmps.getD a undef))

theorem results_list (hr : HR P w0 m H w) : ∀ {rs : List ResultVar} {vs : List AV}, (∀ j ∈ resTmps rs, conc m (tget t j) = some (tmps.getD j undef)) → aresults P H t rs = some vs →
    ∃ us, (rs.mapM (resOne tmps)).run P w = .ok us w ∧ concL m vs = some us
  | [], vs, _, h => by
    simp [aresults] at h; subst h
    exact ⟨[], by simp, by simp [concL]⟩
  | .tmp i :: l, vs, hm, h => by
    simp only [aresults] at h
    split at h
    · rename_i vs' hvs
      cases h
      obtain ⟨us, h1, h2⟩ := results_list hr (fun j hj => hm j (by simp [resTmps, hj])) hvs
      refine ⟨tmps.getD i undef :: us, ?_, concL_cons.2 ⟨_, _, rfl, hm i (by simp [resTmps]), h2⟩⟩
      simp [List.mapM_cons, resOne, h1]
    · cases h
  | .cell a ty :: l, vs, hm, h => by
    simp only [aresults] at h
    split at h
    · rename_i b off hp
      split at h
      · rename_i v hv
        split at h
        · rename_i vs' hvs
          cases h
          obtain ⟨us, h1, h2⟩ := results_list hr (fun j hj => hm j (by simp [resTmps, hj])) hvs
          have hpa := hm a (by simp [resTmps])
          rw [hp] at hpa
          obtain ⟨y, hy, hyu⟩ := conc_ptr hpa
          obtain ⟨u, hu, hc⟩ := run_loadT hr hv hy
          refine ⟨u :: us, ?_, concL_cons.2 ⟨_, _, rfl, hc, h2⟩⟩
          simp only [List.mapM_cons, resOne, hyu, Sem.run_bind]
          simp [asAddr, hu, h1]
        · cases h
      · cases h
    · cases h

theorem results_sound (hr : HR P w0 m H w) {fn : Func} {v : AV} (hm : ∀ j ∈ resTmps fn.results.toList, conc m (tget t j) = some (tmps.getD j undef)) (h : aresult P H t fn.results.toList = some v) :
    ∃ u, (results fn tmps).run P w = .ok u w ∧ conc m v = some u := by
  have he : results fn tmps = (do
      let vs ← fn.results.mapM (resOne tmps)
      pure (if h : vs.size = 1 then vs[0] else .tuple vs)) := by
    unfold results
    congr 1
  unfold aresult at h
  cases hvs : aresults P H t fn.results.toList with
  | none => simp [hvs] at h
  | some vs =>
    obtain ⟨us, h1, h2⟩ := results_list hr hm hvs
    rw [he, Array.mapM_eq_mapM_toList]
    rw [hvs] at h
    have hlen := concL_length h2
    split at h
    · rename_i v' e
      cases h
      cases e
      obtain ⟨u, us', rfl, hc, hn⟩ := concL_cons.1 h2
      have := concL_nil.1 hn
      subst this
      exact ⟨u, by simp [h1], hc⟩
    · rename_i vs' hne e
      cases h
      cases e
      refine ⟨.tuple us.toArray, ?_, conc_tup.2 ⟨us, h2, rfl⟩⟩
      have : us.length ≠ 1 := by
        intro e1
        rw [hlen] at e1
        match vs, e1 with
        | [v], _ => exact hne v rfl
      simp [h1, this]
    · cases h

theorem DsR.nil {d : List Deferred} (h : DsR m [] d) : d = [] := by
  cases d with
  | nil => rfl
  | cons => exact h.elim

def NR (m : MP) (u : AMode) (c1 : FrameMode) : Prop :=
  match u with
  | .run => False
  | .returning => c1 = .returning
  | .panicking ch => ∃ ch', c1 = .panicking ch' ∧ ChR m ch ch'

theorem MR.nr {fr : AFrame} (h : MR P m H lo hi sus fr c) (hne : fr.mode ≠ .run) : NR m fr.mode c.mode ∧ resR P m fr.fn fr.tmps c.tmps := by
  unfold MR at h
  unfold NR
  split at h
  · rename_i e; exact absurd e hne
  · rename_i e; rw [e]; exact h
  · rename_i ch e; rw [e]; obtain ⟨ch', h1, h2, h3⟩ := h; exact ⟨⟨ch', h1, h2⟩, h3⟩
theorem MR.of {fr : AFrame} (h : NR m fr.mode c.mode) (hr : resR P m fr.fn fr.tmps c.tmps) : MR P m H lo hi sus fr c := by
  unfold NR at h
  unfold MR
  split
  · rename_i e; rw [e] at h; exact h.elim
  · rename_i e; rw [e] at h; exact ⟨h, hr⟩
  · rename_i ch e; rw [e] at h; obtain ⟨ch', h1, h2⟩ := h; exact ⟨ch', h1, h2, hr⟩

theorem NR.ne {u : AMode} {c1 : FrameMode} (h : NR m u c1) : c1 ≠ .run := by
  unfold NR at h
  split at h
  · exact h.elim
  · rw [h]; simp
  · obtain ⟨ch, e, _⟩ := h; rw [e]; simp

theorem ChR.settled : ∀ {a : List APanic} {b : List PanicEntry}, ChR m a b → b.dropWhile (!·.goexit) = []
  | [], [], _ => rfl
  | _ :: _, e :: _, ⟨_, _, h3, h4⟩ => by
    rw [List.dropWhile_cons]
    simp [h3, ChR.settled h4]
  | [], _ :: _, hh => hh.elim
  | _ :: _, [], hh => hh.elim

theorem NR.settle {u : AMode} {c1 : FrameMode} (h : NR m u c1) : NR m (asettle u) (Go.settle c1) := by
  cases u with
  | run => exact h.elim
  | returning => have h : c1 = .returning := h; subst h; simp [asettle, Go.settle, NR]
  | panicking ch =>
    obtain ⟨ch', rfl, h2⟩ := h
    cases ch with
    | nil => cases ch' with
      | nil => exact ⟨[], rfl, trivial⟩
      | cons => exact h2.elim
    | cons q l =>
      cases ch' with
      | nil => exact h2.elim
      | cons e l' =>
        obtain ⟨x1, x2, x3, x4⟩ := h2
        obtain ⟨qv, qr⟩ := q
        obtain ⟨ev, er, eg⟩ := e
        simp only at x1 x2 x3
        subst x2 x3
        cases er with
        | true => simp [asettle, Go.settle, NR, x4.settled]
        | false => exact ⟨_, rfl, ⟨x1, rfl, rfl, x4⟩⟩

theorem NR.raised {u : AMode} {c1 : FrameMode} {ch : List APanic} {ch' : List PanicEntry} (h : NR m u c1 ∨ (u = .run ∧ c1 = .run)) (hc : ChR m ch ch') : NR m (araised u ch) (Go.raised c1 ch') := by
  rcases h with h | ⟨rfl, rfl⟩
  · cases u with
    | run => exact h.elim
    | returning => have h : c1 = .returning := h; subst h; exact ⟨_, rfl, hc⟩
    | panicking old =>
      obtain ⟨o', rfl, h2⟩ := h
      exact ⟨_, rfl, hc.append h2⟩
  · exact ⟨_, rfl, hc⟩

theorem aunwind_sound (h : St P w0 am c cs w m lo) (hm : am.fr.mode ≠ .run) (he : aunwind P am.fr am.cs am.H = some am') : Goes P w0 am' c cs base w := by
  obtain ⟨hnr, hres⟩ := h.fr.mode.nr hm
  have hds := h.fr.defers
  have hcs := h.cs
  unfold aunwind at he
  split at he
  · cases he
  rename_i hro
  split at he
  · -- a mark
    rename_i r ds hd
    rw [hd] at hds
    split at he
    · rename_i hobj
      cases he
      cases hcd : c.defers with
      | nil => rw [hcd] at hds; exact hds.elim
      | cons e es =>
        rw [hcd] at hds
        obtain ⟨⟨y, hy, rfl⟩, h4⟩ := hds
        have hrow : w.heap[y.c]? = some (.deferred (some [])) := h.hr.objs _ _ _ hobj hy
        have htake : (Instr.takeDeferred y.c).run P w = .ok [] { w with heap := w.heap.setIfInBounds y.c (.deferred none) } := by
          simp [Instr.takeDeferred, getObj, setObj, Sem.run, hrow]
        have hst := step_collected (P := P) (fr := c) (cs := cs ++ base) hnr.ne hcd rfl htake
        have hb := h.hr.bound r y hy
        refine ⟨_, cs, _, m, lo, .one hst, h.hr.turn hobj rfl hy (by simp [OR, hb]), h.gl, h.le, ⟨h.fr.fn, h.fr.kind, h.fr.ro, h.fr.size, by simpa using h4, ?_⟩, h.cs.keep (Nat.le_refl _) (put_keep hy)⟩
        exact MR.of hnr hres
    · cases he
  · -- a deferred call
    rename_i f args cap ds hd
    rw [hd] at hds
    split at he
    · rename_i hen
      split at he
      · rename_i fr' hf
        cases he
        cases hcd : c.defers with
        | nil => rw [hcd] at hds; exact hds.elim
        | cons e es =>
          rw [hcd] at hds
          obtain ⟨⟨as, cs', h1, h2, rfl⟩, h4⟩ := hds
          have hst := step_defer (P := P) (fr := c) (cs := cs ++ base) (w := w) (f := f) (args := as.toArray ++ cs'.toArray) hnr.ne hcd rfl (by simp only [invoke]; exact run_callFunc hen _)
          refine ⟨_, { c with defers := es } :: cs, w, m, am.H.next, .one hst, h.hr, h.gl, Nat.le_refl _, enter_fr hf (by simpa using concL_append h1 h2), ?_⟩
          refine .cons (Nat.le_refl _) h.le ⟨h.fr.fn, h.fr.kind, h.fr.ro, h.fr.size, h4, MR.of hnr hres⟩ hcs
      · cases he
    · cases he
  · -- out of the frame
    rename_i hd
    rw [hd] at hds
    have hcd := hds.nil
    split at he
    · cases he
    · rename_i chain hmode
      rw [hmode] at hnr
      obtain ⟨ch', hcm, hch⟩ := hnr
      split at he
      · cases he
      · rename_i fn hfn
        split at he
        · rename_i ac acs hacs
          rw [hacs] at hcs
          cases hcs with
          | cons g1 g2 g3 g4 =>
            rename_i lo2 hi2 c1 cs1
            split at he
            · rename_i hmay
              cases he
              have hst := step_leave_panicked (P := P) (fr := c) (c := c1) (cs := cs1 ++ base) (w := w) (chain := ch') ⟨hcm, hcd, fn, by rw [h.fr.fn]; exact hfn⟩
              rw [Frame.raise_mode] at hst
              refine ⟨_, cs1, w, m, lo2, .one hst, h.hr, h.gl, Nat.le_trans g2 (Nat.le_trans g1 h.le), ⟨g3.fn, g3.kind, g3.ro, g3.size, g3.defers, ?_⟩, g4⟩
              have gm := g3.mode
              cases hrm : ac.mode with
              | run =>
                unfold MR at gm
                rw [hrm] at gm
                exact MR.of (c := { c1 with mode := Go.raised c1.mode ch' }) (fr := { ac with mode := araised .run chain }) (NR.raised (.inr ⟨rfl, gm.1⟩) hch) (raise_res hmay gm.2)
              | _ =>
                obtain ⟨n1, n2⟩ := gm.nr (by rw [hrm]; simp)
                rw [hrm] at n1
                exact MR.of (c := { c1 with mode := Go.raised c1.mode ch' }) (fr := { ac with mode := araised _ chain }) (NR.raised (.inl n1) hch) n2
            · cases he
        · cases he
    · rename_i hmode
      rw [hmode] at hnr
      have hcm : c.mode = .returning := hnr
      split at he
      · cases he
      · rename_i fn hfn
        split at he
        · cases he
        · rename_i v hv
          obtain ⟨u, hu, hc⟩ := results_sound h.hr (hres fn hfn) hv
          have hfn' : P.funcs[c.fn]? = some fn := by rw [h.fr.fn]; exact hfn
          cases hkind : am.fr.kind with
          | normal =>
            rw [hkind] at he
            obtain ⟨c1, cs1, lo2, rfl, hst'⟩ := aback_normal hcs h.hr h.gl h.le hc he
            exact ⟨_, cs1, w, m, lo2, .one (step_leave_returned (P := P) (fr := c) (c := c1) (cs := cs1 ++ base) (w := w) (v := u) ⟨hcm, hcd, h.fr.kind.trans hkind, fn, hfn', hu⟩), hst'⟩
          | deferred =>
            rw [hkind] at he
            unfold aback at he
            split at he
            · cases he
            · rename_i ac acs hacs
              rw [hacs] at hcs
              cases hcs with
              | cons g1 g2 g3 g4 =>
                rename_i lo2 hi2 c1 cs1
                have gm := g3.mode
                simp only at he
                split at he
                · cases he
                · rename_i hrm
                  cases he
                  obtain ⟨n1, n2⟩ := gm.nr hrm
                  have hst := step_going_returned (P := P) (fr := c) (c := c1) (cs := cs1 ++ base) (w := w) (v := u) (h.fr.kind.trans hkind) ⟨hcm, hcd, fn, hfn', hu⟩
                  refine ⟨_, cs1, w, m, lo2, .one hst, h.hr, h.gl, Nat.le_trans g2 (Nat.le_trans g1 h.le), ⟨g3.fn, g3.kind, g3.ro, g3.size, g3.defers, ?_⟩, g4⟩
                  exact MR.of (c := { c1 with mode := Go.settle c1.mode }) (fr := { ac with mode := asettle ac.mode }) n1.settle n2
          | _ =>
            rw [hkind] at he
            unfold aback at he
            split at he <;> cases he

theorem astep_sound (hmix : P.follows .mixedOrders = true) (h : St P w0 am c cs w m lo) (he : astep P am = some am') : Goes P w0 am' c cs base w := by
  unfold astep at he
  split at he
  · rename_i hrun
    exact aexec_sound hmix h hrun he fun ops dr p rest k htd ho => aoper_sound h hrun htd ho
  · rename_i hne
    exact aunwind_sound h hne he

theorem arun_sound (hmix : P.follows .mixedOrders = true) {f : Nat} {v : AV} : ∀ (n : Nat) {am : AM} {c : Frame} {cs : List Frame} {w : World} {m : MP} {lo : Nat}, St P w0 am c cs w m lo → arun P f n am = some (v, H') →
    ∃ c' w' m' u, Steps P (lone c (cs ++ base) w) (lone c' base w') ∧ c'.fn = f ∧ c'.leaving P w' (.returned u) ∧ conc m' v = some u ∧ HR P w0 m' H' w' ∧ GL P m'
  | 0, am, c, cs, w, m, lo, h, he => by simp [arun] at he
  | n + 1, am, c, cs, w, m, lo, h, he => by
    unfold arun at he
    split at he
    · rename_i v' hd
      cases he
      unfold adone at hd
      split at hd
      · rename_i hcs hmode hdef hro hkind
        split at hd
        · rename_i hf
          have hf := Nat.eq_of_beq_eq_true hf
          split at hd
          · rename_i fn hfn
            have hnr := h.fr.mode.nr (by rw [hmode]; simp)
            rw [hmode] at hnr
            obtain ⟨u, hu, hc⟩ := results_sound h.hr (hnr.2 fn (by rw [hf]; exact hfn)) hd
            have hcs' := h.cs
            rw [hcs] at hcs'
            cases hcs'
            have hds := h.fr.defers
            rw [hdef] at hds
            exact ⟨c, w, m, u, Steps.refl _ _, h.fr.fn.trans hf, ⟨hnr.1, hds.nil, h.fr.kind.trans hkind, fn, by rw [h.fr.fn, hf]; exact hfn, hu⟩, hc, h.hr, h.gl⟩
          · cases hd
        · cases hd
      · cases hd
    · split at he
      · rename_i am' hs
        obtain ⟨c', cs', w', m', lo', hst, h'⟩ := astep_sound (base := base) hmix h hs
        obtain ⟨c2, w2, m2, u, h1, h2⟩ := arun_sound hmix n h' he
        exact ⟨c2, w2, m2, u, Steps.trans hst h1, h2⟩
      · cases he

/-- A run of the abstract machine's is a contract of the function's. -/
theorem calls_of_arun (hmix : P.follows .mixedOrders = true) {f n : Nat} {fr : AFrame} {args : List AV} {as : Array Value} {v : AV} (hr : HR P w m H w) (hG : GL P m) (he : aenter P f args .normal = some fr)
    (ha : concL m args = some as.toList) (hrun : arun P f n ⟨fr, [], H⟩ = some (v, H')) :
    Calls P f as w fun e w' => ∃ m' u, e = .returned u ∧ conc m' v = some u ∧ HR P w m' H' w' ∧ GL P m' := by
  intro base
  obtain ⟨c', w', m', u, h1, h2, h3, h4, h5, h6⟩ := arun_sound (base := base) hmix n (am := ⟨fr, [], H⟩) (cs := []) (lo := H.next) ⟨hr, hG, Nat.le_refl _, enter_fr he ha, .nil⟩ hrun
  exact ⟨.returned u, w', c', ⟨m', u, rfl, h4, h5, h6⟩, h1, h2, h3⟩

end
end Go.AE
