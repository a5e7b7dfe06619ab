/-
  The abstract machine's moves that run no operation, against the model's.
-/
import Derived.Test.YtglmnkoophfllaaGreatDoorAEStep
import Derived.RangeFuncIn
namespace Go.AE
open Go

section
variable {P : Program} {w0 : World} {m m' : MP} {H H' : AH} {w w' : World} {ops : Array Oper} {t t' : T AV} {tmps : Array Value} {lo hi size : Nat} {dr sus : Bool} {rest : List PStep} {L : List Nat}

theorem KR.cc {c : Code} {k : List AItem} {l : List Item} (h : KR m k l) : KR m (.code c :: k) (.code c :: l) := .cons (x := .code c) (y := .code c) (by simp [IRel]) h
theorem KR.cb {c : Nat} {k : List AItem} {l : List Item} (h : KR m k l) : KR m (.inBlock c :: k) (.inBlock c :: l) := .cons (x := .inBlock c) (y := .inBlock c) (by simp [IRel]) h
theorem KR.cl {c : Code} {k : List AItem} {l : List Item} (h : KR m k l) : KR m (.inLoop c :: k) (.inLoop c :: l) := .cons (x := .inLoop c) (y := .inLoop c) (by simp [IRel]) h

theorem KR.cs {c : Code} {k : List AItem} {l : List Item} (h : KR m k l) : KR m (.inScope c :: k) (.inScope c :: l) := .cons (x := .inScope c) (y := .inScope c) (by simp [IRel]) h
theorem stepR_inScope {b : Frame} {a : Act} {k : List Item} {cs : List Frame} {c : Code} : step P (lone (b.atR a (.inScope c :: k)) cs w) = .next (lone (b.atR a k) cs w) :=
  step_lone_go (by simp [stepG, stepG.exec, Frame.atR])
theorem stepR_scope {b : Frame} {a : Act} {k : List Item} {cs : List Frame} {c : Code} :
    step P (lone (b.atR a (.code (.scope c) :: k)) cs w) = .next (lone (b.atR a (.code c :: .inScope c :: k)) cs w) :=
  step_lone_go (by simp [stepG, stepG.exec, Frame.atR])

theorem enter_fr {f : Nat} {args : List AV} {as : Array Value} {kind : CallKind} {fr' : AFrame} (h : aenter P f args kind = some fr') (ha : concL m args = some as.toList) :
    FrR P m H lo hi false fr' (Frame.enter P f as kind) := by
  unfold aenter at h
  split at h
  · cases h
  · rename_i fn hf
    split at h
    · cases h
    · rename_i c hb
      split at h
      · rename_i hlen
        simp at h
        subst h
        have hlen : args.length ≤ fn.ntmps := by simpa [Nat.ble_eq] using hlen
        have hsz : as.size = args.length := by have := concL_length ha; simpa using this
        have he : Frame.enter P f as kind = { fn := f, tmps := as ++ Array.replicate (fn.ntmps - as.size) undef, todo := [.code c], defers := [], mode := .run, kind } := by
          simp [Frame.enter, hf, hb]
        rw [he]
        refine ⟨rfl, rfl, trivial, by simp; omega, trivial, ?_⟩
        unfold MR
        refine ⟨rfl, TodoR.of (.cons rfl .nil) fun i => ?_⟩
        unfold tget
        rw [T.get_ofList]
        by_cases hi : i < args.length
        · have h1 : 0 ≤ i ∧ i < 0 + args.length := by omega
          rw [if_pos h1]
          simp only [Nat.sub_zero]
          have hget : args[i]? = some args[i] := by simp [hi]
          rw [hget]
          obtain ⟨v, hv, hc⟩ := concL_get ha i _ hget
          simp only
          rw [hc]
          have : i < as.size := by omega
          simp only [Array.getD_eq_getD_getElem?, Array.getElem?_append, this, if_true]
          rw [← Array.getElem?_toList, hv]; rfl
        · have h1 : ¬ (0 ≤ i ∧ i < 0 + args.length) := by omega
          rw [if_neg h1]
          simp only [T.get_leaf, conc]
          have : ¬ i < as.size := by omega
          simp only [Array.getD_eq_getD_getElem?, Array.getElem?_append, this, if_false, Array.getElem?_replicate]
          split <;> rfl
      · cases h

theorem planSeq_facts : ∀ (l : List Oper) (i : Nat), (planSeq l i).map (·.i) = List.range' i l.length ∧ ∀ p ∈ planSeq l i, i ≤ p.i ∧ l[p.i - i]? = some p.o
  | [], i => by simp [planSeq]
  | o :: l, i => by
    obtain ⟨h1, h2⟩ := planSeq_facts l (i + 1)
    refine ⟨by simp [planSeq, h1, List.range'], fun p hp => ?_⟩
    simp only [planSeq, List.mem_cons] at hp
    rcases hp with rfl | hp
    · simp
    · obtain ⟨e1, e2⟩ := h2 p hp
      refine ⟨by omega, ?_⟩
      have : p.i - i = (p.i - (i + 1)) + 1 := by omega
      rw [this]; simpa using e2

theorem region_seq (ht : TR m t tmps) : RegR P m H lo hi size ops false false (planSeq ops.toList 0) t tmps (List.range ops.size) := by
  obtain ⟨h1, h2⟩ := planSeq_facts ops.toList 0
  refine ⟨by rw [h1, List.range_eq_range']; simp, fun p hp => ?_, ht⟩
  obtain ⟨_, e⟩ := h2 p hp
  simpa using e

theorem region_draw {ps : List PStep} (hp : planDraw ops.toList = some ps) (ht : TR m t tmps) (x : Nat) : RegR P m H lo hi size ops true false ps t tmps (Region.schedule true ops x) := by
  have ok := planDraw_ok hp
  obtain ⟨s1, s2⟩ := schedule_inv (planDraw_back hp) x
  refine ⟨[], by simpa using hp, s1, fun p hp => s2 _ ?_, fun p hp => by simp at hp, fun j _ => ht j, fun _ => 0, fun p hp => by simp at hp, fun p q hp => by simp at hp⟩
  have := (List.getElem?_eq_some_iff.1 (ok.at_ p hp)).1
  simpa using this

variable {am am' : AM} {c : Frame} {cs base : List Frame}

theorem St.todo (h : St P w0 am c cs w m lo) (hrun : am.fr.mode = .run) : c.mode = .run ∧ TodoR P m am.H lo am.H.next am.fr.size false am.fr.todo am.fr.tmps c.todo c.tmps := by
  have := h.fr.mode
  unfold MR at this
  rw [hrun] at this
  exact this

theorem leave_sound (h : St P w0 am c cs w m lo) (hrun : am.fr.mode = .run) {todo' : List Item} (ht : TR m am.fr.tmps c.tmps) (htd : c.todo = todo')
    (hs : step P (lone (c.atR ⟨c.tmps, c.defers⟩ todo') (cs ++ base) w) = .next (lone { c.atR ⟨c.tmps, c.defers⟩ todo' with mode := .returning } (cs ++ base) w)) :
    Goes P w0 ⟨{ am.fr with mode := .returning }, am.cs, am.H⟩ c cs base w := by
  obtain ⟨h1, h2⟩ := h.todo hrun
  subst htd
  rw [atR_self h1] at hs
  refine ⟨_, cs, w, m, lo, .one hs, h.hr, h.gl, h.le, ⟨h.fr.fn, h.fr.kind, h.fr.ro, h.fr.size, h.fr.defers, ?_⟩, h.cs⟩
  unfold MR
  exact ⟨rfl, resR.of ht⟩

theorem run_getLoop {r : Nat} {x : Loop} (h : w.heap[r]? = some (.loop x)) : (Instr.getLoop r).run P w = .ok x w := by
  simp [Instr.getLoop, getObj, Sem.run, h]
theorem run_setLoop {r : Nat} {x : Loop} (h : w.heap[r]? = some (.loop x)) (o : Obj) : (setObj r o).run P w = .ok () { w with heap := w.heap.setIfInBounds r o } := by
  simp [setObj, Sem.run, h]

/-- A loop's record, and what may be written over it. -/
theorem turn_loop (hr : HR P w0 m H w) {l : Nat} {y : MB} {st : LoopState} {pe : Option Code} {fn sz : Nat} {tm : T AV} {ps : Array Tmp} {as body : Code} {ds : Nat}
    (ho : H.get l = some (.loop st pe fn sz tm ps as body ds)) (hm : m l = some y) : ∃ r, w.heap[y.c]? = some (.loop r) ∧ r.state = st ∧ r.pending = pe ∧ r.fn = fn ∧ r.tmps.size = sz ∧ TR m tm r.tmps ∧ r.params = ps ∧ r.assign = as ∧ r.body = body ∧
      ∀ st' pe', HR P w0 m (H.put l (.loop st' pe' fn sz tm ps as body ds)) { w with heap := w.heap.setIfInBounds y.c (.loop { r with state := st', pending := pe' }) } := by
  obtain ⟨r, h1, h2, h3, h4, h5, h6, h7, h8, h9, z, h10, h11⟩ := hr.objs l _ y ho hm
  refine ⟨r, h1, h2, h3, h4, h5, h6, h7, h8, h9, fun st' pe' => hr.turn ho rfl hm ?_⟩
  have hb := hr.bound l y hm
  exact ⟨{ r with state := st', pending := pe' }, by simp [hb], rfl, rfl, h4, h5, h6, h7, h8, h9, z, h10, h11⟩

theorem put_keep {b : Nat} {l : Nat} {o : AObj} {x : MB} (hm : m l = some x) : Keep b m m H (H.put l o) :=
  ⟨Ext.refl m, Nat.le_refl _, fun k _ hk => ⟨hk, by
    simp only [AH.get, AH.put, T.get_set]
    rw [if_neg]
    intro e; subst e; rw [hm] at hk; cases hk⟩⟩

theorem afinish_reg {fr fr' : AFrame} {v : AV} {p : PStep} {k : List AItem} (htd : fr.todo = .reg ops dr (p :: rest) :: k) (h : afinish P fr H v = some fr') :
    ∃ t', aput fr.size fr.tmps p.o.dst v = some t' ∧ recheck P H ops t' p.re = true ∧ fr' = { fr with tmps := t', todo := .reg ops dr rest :: k } := by
  unfold afinish at h
  rw [htd] at h
  simp only at h
  split at h
  · cases h
  · rename_i t' ht
    split at h
    · rename_i hc
      exact ⟨t', ht, hc, by cases h; rfl⟩
    · cases h

/-- Back to a caller that waits for a value. -/
theorem aback_normal {acs : List AFrame} {v : AV} {u : Value} (hcs : SR P m H lo acs cs) (hr : HR P w0 m H w) (hG : GL P m) (hle : lo ≤ H.next) (hv : conc m v = some u) (he : aback P .normal v acs H = some am') :
    ∃ c1 cs1 lo2, cs = c1 :: cs1 ∧ St P w0 am' (c1.finish u) cs1 w m lo2 := by
  unfold aback at he
  split at he
  · cases he
  · rename_i ac acs
    cases hcs with
    | cons g1 g2 g3 g4 =>
      rename_i lo2 hi2 c1 cs1
      have gm := g3.mode
      simp only at he
      split at he
      · rename_i hrm
        split at he
        · rename_i ac' hf
          cases he
          unfold MR at gm
          rw [hrm] at gm
          obtain ⟨q1, q2⟩ := gm
          refine ⟨c1, cs1, lo2, rfl, ?_⟩
          cases htd : ac.todo with
          | nil => rw [htd] at q2; exact absurd q2.1 (by simp)
          | cons x k =>
            rw [htd] at q2
            cases x with
            | reg ops dr rest =>
              obtain ⟨L, k', e1, e2, e3, e4⟩ := q2
              obtain ⟨p, r, L2, rfl, ha, rfl⟩ := e4 rfl
              obtain ⟨t', ht, hck, rfl⟩ := afinish_reg htd hf
              have hfin := e3.fin (m' := m) (H' := H) (df := c1.defers) (hi' := H.next) ha (Keep.refl _ _ _) g3.size ht hv hck (Nat.le_trans g1 hle)
              obtain ⟨_, _, z3, z4⟩ := put_get (tmps := c1.tmps) (d := p.o.dst) (u := u) (df := c1.defers)
              have ho : (ops[p.i]?).bind (·.dst) = p.o.dst := by
                have : ops[p.i]? = some p.o := by
                  cases dr with
                  | false => exact e3.2.1 p (by simp)
                  | true => obtain ⟨dn, hd⟩ := e3; have := hd.ok.at_ p (by simp); simpa using this
                rw [this]; rfl
              have hfe : c1.finish u = c1.atR ((⟨c1.tmps, c1.defers⟩ : Act).put p.o.dst u) (.inRegion ops L2 :: k') := by
                have := Frame.finish_atR c1 ⟨c1.tmps, c1.defers⟩ ops p.i L2 k' u
                rw [← e1, atR_self q1, ho] at this
                exact this
              rw [hfe]
              refine ⟨hr, hG, Nat.le_trans g2 (Nat.le_trans g1 hle), ⟨g3.fn, g3.kind, g3.ro, ?_, ?_, ?_⟩, g4⟩
              · simp only [Frame.atR]; rw [z3]; exact g3.size
              · simp only [Frame.atR]; rw [z4]; exact g3.defers
              · unfold MR
                simp only [hrm]
                exact ⟨rfl, L2, k', rfl, e2, hfin, by simp⟩
            | inRangeFunc l =>
              obtain ⟨y, k', e1, e2, e3, e4⟩ := q2
              unfold afinish at hf
              rw [htd] at hf
              simp only at hf
              cases hf
              have hfe : c1.finish u = { c1 with todo := .endRangeFunc y.c :: k' } := by simp [Frame.finish, e2]
              rw [hfe]
              refine ⟨hr, hG, Nat.le_trans g2 (Nat.le_trans g1 hle), ⟨g3.fn, g3.kind, g3.ro, g3.size, g3.defers, ?_⟩, g4⟩
              unfold MR
              simp only [hrm]
              exact ⟨q1, rfl, .cons ⟨y, e1, rfl⟩ e3, e4⟩
            | _ => exact absurd q2.1 (by simp)
        · cases he
      · cases he

/-- A frame is left: a function's, or a round's. -/
theorem aleave_sound (h : St P w0 am c cs w m lo) (hrun : am.fr.mode = .run) {todo' : List Item} (ht : TR m am.fr.tmps c.tmps) (htd : c.todo = todo') {jump : Option Code} (he : aleave P am.fr am.cs am.H jump = some am')
    (hs : c.roundOf = none → step P (lone (c.atR ⟨c.tmps, c.defers⟩ todo') (cs ++ base) w) = .next (lone { c.atR ⟨c.tmps, c.defers⟩ todo' with mode := .returning } (cs ++ base) w))
    (hs2 : ∀ l c1 cs1 u w', c.roundOf = some l → c.kind = .normal → (Instr.endRound l jump).run P w = .ok u w' → step P (lone (c.atR ⟨c.tmps, c.defers⟩ todo') (c1 :: cs1) w) = .next (lone (c1.finish u) cs1 w')) :
    Goes P w0 am' c cs base w := by
  have hro := h.fr.ro
  unfold aleave at he
  cases hfr : am.fr.roundOf with
  | none =>
    rw [hfr] at hro he
    simp only at he
    have hc := hro.none'
    have he' : some (⟨{ am.fr with mode := .returning }, am.cs, am.H⟩ : AM) = some am' := by
      split at he
      · rw [← he]; simp [hfr]
      · rw [← he]; simp [hfr]
      · cases he
    cases he'
    exact leave_sound h hrun ht htd (hs hc)
  | some l =>
    rw [hfr] at hro he
    simp only at he
    cases hcr : c.roundOf with
    | none => rw [hcr] at hro; exact hro.elim
    | some l' =>
      rw [hcr] at hro
      obtain ⟨y, hy, rfl⟩ := hro
      split at he
      · rename_i hkind
        split at he
        · rename_i v H' hend
          unfold aendRound at hend
          split at hend
          · rename_i st pe fn sz tm ps as body ds ho
            cases hend
            obtain ⟨r, h1, h2, h3, h4, h5, h6, h7, h8, h9, hput⟩ := turn_loop h.hr ho hy
            obtain ⟨ls, hls, he⟩ : ∃ ls : LoopState, ls = (if jump.isNone then .ready else .done) ∧ aback P .normal (.bool jump.isNone) am.cs (am.H.put l (.loop ls jump fn sz tm ps as body ds)) = some am' := by
              cases jump <;> exact ⟨_, rfl, he⟩
            subst hls
            have hkp : Keep am.H.next m m am.H (am.H.put l (.loop (if jump.isNone then .ready else .done) jump fn sz tm ps as body ds)) := put_keep hy
            have hrun2 : (Instr.endRound y.c jump).run P w = .ok (.bool jump.isNone) { w with heap := w.heap.setIfInBounds y.c (.loop { r with state := if jump.isNone then .ready else .done, pending := jump }) } := by
              simp only [Instr.endRound, Sem.run_bind, run_getLoop h1, Result.andThen_ok, run_setLoop h1, Sem.run_pure]
            obtain ⟨c1, cs1, lo2, rfl, hst⟩ := aback_normal (v := .bool jump.isNone) (u := .bool jump.isNone) (h.cs.keep h.le hkp) (hput _ _) h.gl (Nat.le_trans h.le hkp.next) (by simp [conc]) he
            have hs3 := hs2 y.c c1 (cs1 ++ base) _ _ hcr (h.fr.kind.trans hkind) hrun2
            obtain ⟨hcm, _⟩ := h.todo hrun
            rw [← htd, atR_self hcm] at hs3
            exact ⟨_, cs1, _, m, lo2, .one hs3, hst⟩
          · cases hend
        · cases he
      · cases he

/-- The region is at its end. -/
theorem regend_sound (h : St P w0 am c cs w m lo) (hrun : am.fr.mode = .run) {k : List AItem} (htd : am.fr.todo = .reg ops dr [] :: k) :
    Goes P w0 ⟨{ am.fr with todo := k }, am.cs, am.H⟩ c cs base w := by
  obtain ⟨h1, h2⟩ := h.todo hrun
  rw [htd] at h2
  obtain ⟨L, k', e1, e2, e3, _⟩ := h2
  obtain ⟨m1, w1, tm1, L1, s1, r1, z1, hr1, k1, n1, _⟩ := e3.catch h.fr.size h.hr h.gl (fun _ => .inl rfl) c c.defers k' (cs ++ base)
  rw [n1 rfl] at s1 r1
  rw [← e1, atR_self h1] at s1
  have s2 := stepR_region_end (P := P) (b := c) (a := ⟨tm1, c.defers⟩) (k := k') (cs := cs ++ base) (w := w1) (ops := ops)
  refine ⟨_, cs, w1, m1, lo, Steps.trans s1 (.one s2), hr1, h.gl.mono k1.ext, h.le, ⟨h.fr.fn, h.fr.kind, h.fr.ro.mono k1.ext, z1, h.fr.defers.mono k1.ext, ?_⟩, h.cs.keep (Nat.le_refl _) k1⟩
  unfold MR
  simp only [hrun]
  exact ⟨rfl, TodoR.of (e2.mono k1.ext) r1.done⟩

theorem TodoR.plain {k : List AItem} {l : List Item} (h : TodoR P m H lo hi size false k t l tmps) (hk : ∀ ops dr rest k', k ≠ .reg ops dr rest :: k') (hk2 : ∀ l k', k ≠ .inRangeFunc l :: k') : KR m k l ∧ TR m t tmps := by
  unfold TodoR at h
  split at h
  · exact absurd rfl (hk _ _ _ _)
  · exact absurd rfl (hk2 _ _)
  · exact h.2

theorem range_goes {f : Operand} {ps : Array Tmp} {as body : Code} {k : List AItem} {k' : List Item} {g : Nat} {first cap : List AV} {fr' : AFrame} (h : St P w0 am c cs w m lo) (hrun : am.fr.mode = .run)
    (htd : am.fr.todo = .code (.rangeFunc f ps as body) :: k) (e1 : c.todo = .code (.rangeFunc f ps as body) :: k') (hk : KR m k k') (ht : TR m am.fr.tmps c.tmps) (hro : am.fr.roundOf = none) (hcr : c.roundOf = none)
    (hev : aev P am.fr.tmps f = some (.func g first cap)) (hen : enterable P g = true)
    (he : aenter P g (first ++ [.yieldF (am.H.new (.deferred true)).next] ++ cap) .normal = some fr') :
    Goes P w0 ⟨fr', { am.fr with todo := .inRangeFunc (am.H.new (.deferred true)).next :: k, defers := .mark am.H.next :: am.fr.defers } :: am.cs,
      (am.H.new (.deferred true)).new (.loop .ready none am.fr.fn am.fr.size am.fr.tmps ps as body am.H.next)⟩ c cs base w := by
  obtain ⟨hcm, _⟩ := h.todo hrun
  -- the two new objects
  let w1 : World := { w with heap := w.heap.push (.deferred (some [])) }
  let lp : Loop := { state := .ready, pending := none, fn := c.fn, tmps := c.tmps, params := ps, assign := as, body := body, defers := w.heap.size }
  let w2 : World := { w1 with heap := w1.heap.push (.loop lp) }
  let m1 := upd m am.H.next ⟨w.heap.size, 0, 0⟩
  let H1 := am.H.new (.deferred true)
  have f0 : m am.H.next = none := h.hr.fresh
  have x1 : Ext m m1 := Ext.upd f0 _
  have hr1 : HR P w0 m1 H1 w1 := (h.hr.newA (.deferred true)).mapIn (o := .deferred true) (δ := 0) (by simp [AH.get, AH.new, T.get_set]) f0 (by simp [OR])
  have f1 : m1 H1.next = none := hr1.fresh
  let m2 := upd m1 H1.next ⟨w1.heap.size, 0, 0⟩
  have x2 : Ext m1 m2 := Ext.upd f1 _
  let o2 : AObj := .loop .ready none am.fr.fn am.fr.size am.fr.tmps ps as body am.H.next
  have hr2 : HR P w0 m2 (H1.new o2) w2 := by
    refine (hr1.newA o2).mapIn (o := o2) (δ := 0) (by simp [AH.get, AH.new, T.get_set]) f1 ⟨lp, by simp, rfl, rfl, h.fr.fn, h.fr.size, ht.mono (x1.trans x2), rfl, rfl, rfl, ⟨w.heap.size, 0, 0⟩, x2 _ _ (upd_same _ _ _), rfl⟩
  -- the model's step
  have hfun := eval_of (df := c.defers) h.gl ht hev
  obtain ⟨fs, cp, hfs, hcp, hfe⟩ := conc_func hfun
  have hent : (Instr.enterLoop c.fn c.tmps ps as body c.roundOf).run P w = .ok (w1.heap.size, [{ target := .collected w.heap.size, args := #[] }]) w2 := by
    rw [hcr]
    simp [Instr.enterLoop, newObj, Sem.run, w1, w2, lp]
  have hres : (resolve (⟨c.tmps, c.defers⟩ : Act).eval (rangeCall f w1.heap.size) 0).run P w2 = .ok { target := .fn (.func g) cp.toArray, args := fs.toArray ++ #[.func (.yield w1.heap.size) #[] #[]] } w2 := by
    have hcv : (⟨c.tmps, c.defers⟩ : Act).eval (.const (.func (.yield w1.heap.size) #[] #[])) = .func (.yield w1.heap.size) #[] #[] := rfl
    simp [resolve, rangeCall, Deferred.ofValue, hfe, hcv]
  have hinv : (invoke (.fn (.func g) cp.toArray) (fs.toArray ++ #[.func (.yield w1.heap.size) #[] #[]])).run P w2 = .ok (.enter g (fs.toArray ++ #[.func (.yield w1.heap.size) #[] #[]] ++ cp.toArray)) w2 := by
    simp only [invoke]; exact run_callFunc hen _
  have hs := stepR_rangeFunc (P := P) (b := c) (a := ⟨c.tmps, c.defers⟩) (k := k') (cs := cs ++ base) hent hres hinv
  rw [← e1, atR_self hcm] at hs
  have hx := x1.trans x2
  have hkp : Keep am.H.next m m2 am.H (H1.new o2) := by
    refine ⟨hx, by simp [AH.new, H1]; omega, fun b hb hm => ⟨?_, ?_⟩⟩
    · have n1 : b ≠ am.H.next := Nat.ne_of_lt hb
      have n2 : b ≠ H1.next := by simp [AH.new, H1]; omega
      simp only [m2, m1]
      rw [upd_other _ _ n2, upd_other _ _ n1]; exact hm
    · have n1 : b ≠ am.H.next := Nat.ne_of_lt hb
      have n2 : b ≠ am.H.next + 1 := by omega
      simp [AH.get, AH.new, H1, T.get_set, n1, n2]
  refine ⟨_, c.atR ⟨c.tmps, [{ target := .collected w.heap.size, args := #[] }] ++ c.defers⟩ (.inRangeFunc w1.heap.size :: k') :: cs, w2, m2, (H1.new o2).next, .one hs, hr2, h.gl.mono hx, Nat.le_refl _, enter_fr he ?_, ?_⟩
  · have hy : conc m2 (.yieldF H1.next) = some (.func (.yield w1.heap.size) #[] #[]) := by simp [conc, m2, upd_same]
    have := concL_append (concL_append (concL_mono hx _ _ hfs) (concL_cons.2 ⟨_, [], rfl, hy, concL_nil.2 rfl⟩)) (concL_mono hx _ _ hcp)
    simpa using this
  · refine .cons (hi' := (H1.new o2).next) (Nat.le_refl _) (Nat.le_trans h.le hkp.next) ⟨h.fr.fn, h.fr.kind, h.fr.ro.mono hx, h.fr.size, ⟨⟨⟨w.heap.size, 0, 0⟩, x2 _ _ (upd_same _ _ _), rfl⟩, h.fr.defers.mono hx⟩, ?_⟩ (h.cs.keep h.le hkp)
    unfold MR
    simp only [hrun]
    exact ⟨rfl, ⟨w1.heap.size, 0, 0⟩, k', upd_same _ _ _, rfl, hk.mono hx, ht.mono hx⟩

/-- The moves of a running frame, but for its operations. -/
theorem aexec_sound (hmix : P.follows .mixedOrders = true) (h : St P w0 am c cs w m lo) (hrun : am.fr.mode = .run) (he : aexec P am.fr am.cs am.H = some am')
    (hop : ∀ ops dr p rest k, am.fr.todo = .reg ops dr (p :: rest) :: k → aoper P am.fr am.cs am.H ops p = some am' → Goes P w0 am' c cs base w) : Goes P w0 am' c cs base w := by
  obtain ⟨h1, h2⟩ := h.todo hrun
  have hG := h.gl
  unfold aexec at he
  split at he
  -- the end
  case h_1 htd =>
    rw [htd] at h2
    obtain ⟨hk, ht⟩ := h2.plain (by simp) (by simp)
    exact aleave_sound h hrun ht hk.empty he (fun hb => stepR_end hb) fun l c1 cs1 u w' hb hkd hr => stepR_round_end hb hkd hr
  case h_2 htd =>
    rw [htd] at h2
    obtain ⟨hk, ht⟩ := h2.plain (by simp) (by simp)
    obtain ⟨k', e1, _⟩ := hk.code
    exact aleave_sound h hrun ht e1 he (fun hb => stepR_ret hb) fun l c1 cs1 u w' hb hkd hr => stepR_round_ret hb hkd hr
  case h_3 htd =>
    rw [htd] at h2
    obtain ⟨hk, ht⟩ := h2.plain (by simp) (by simp)
    obtain ⟨k', e1, e2⟩ := hk.code
    cases he
    exact h.move hrun e2 ht (by rw [e1]; exact stepR_skip)
  case h_4 htd =>
    rw [htd] at h2
    obtain ⟨hk, ht⟩ := h2.plain (by simp) (by simp)
    obtain ⟨k', e1, e2⟩ := hk.code
    cases he
    exact h.move hrun e2 ht (by rw [e1]; exact stepR_label)
  case h_5 htd =>
    rw [htd] at h2
    obtain ⟨hk, ht⟩ := h2.plain (by simp) (by simp)
    obtain ⟨k', e1, e2⟩ := hk.block
    cases he
    exact h.move hrun e2 ht (by rw [e1]; exact stepR_inBlock)
  case h_6 htd =>
    rw [htd] at h2
    obtain ⟨hk, ht⟩ := h2.plain (by simp) (by simp)
    obtain ⟨k', e1, e2⟩ := hk.scope
    cases he
    exact h.move hrun e2 ht (by rw [e1]; exact stepR_inScope)
  case h_7 htd =>
    rw [htd] at h2
    obtain ⟨hk, ht⟩ := h2.plain (by simp) (by simp)
    obtain ⟨k', e1, e2⟩ := hk.code
    cases he
    exact h.move hrun e2.cs.cc ht (by rw [e1]; exact stepR_scope)
  case h_8 htd =>
    rw [htd] at h2
    obtain ⟨hk, ht⟩ := h2.plain (by simp) (by simp)
    obtain ⟨k', e1, e2⟩ := hk.code
    cases he
    exact h.move hrun e2.cc.cc ht (by rw [e1]; exact stepR_seq)
  case h_9 htd =>
    rw [htd] at h2
    obtain ⟨hk, ht⟩ := h2.plain (by simp) (by simp)
    obtain ⟨k', e1, e2⟩ := hk.code
    split at he
    · rename_i hv
      cases he
      have hv := eval_of (df := c.defers) hG ht hv
      simp [conc] at hv
      exact h.move hrun e2.cc ht (by rw [e1]; exact stepR_cond (t := true) hv.symm)
    · rename_i hv
      cases he
      have hv := eval_of (df := c.defers) hG ht hv
      simp [conc] at hv
      exact h.move hrun e2.cc ht (by rw [e1]; exact stepR_cond (t := false) hv.symm)
    · cases he
  case h_10 htd =>
    rw [htd] at h2
    obtain ⟨hk, ht⟩ := h2.plain (by simp) (by simp)
    obtain ⟨k', e1, e2⟩ := hk.code
    cases he
    exact h.move hrun e2.cb.cc ht (by rw [e1]; exact stepR_block)
  case h_11 htd =>
    rw [htd] at h2
    obtain ⟨hk, ht⟩ := h2.plain (by simp) (by simp)
    obtain ⟨k', e1, e2⟩ := hk.code
    cases he
    exact h.move hrun e2.cl.cc ht (by rw [e1]; exact stepR_loop)
  case h_12 htd =>
    rw [htd] at h2
    obtain ⟨hk, ht⟩ := h2.plain (by simp) (by simp)
    obtain ⟨k', e1, e2⟩ := hk.loop
    cases he
    exact h.move hrun e2.cl.cc ht (by rw [e1]; exact stepR_inLoop)
  case h_13 htd =>
    rw [htd] at h2
    obtain ⟨hk, ht⟩ := h2.plain (by simp) (by simp)
    obtain ⟨k', e1, e2⟩ := hk.code
    split at he
    · rename_i k1 hx
      cases he
      obtain ⟨l1, x1, x2⟩ := aexitTo_sound e2 hx
      exact h.move hrun x2 ht (by rw [e1]; exact stepR_exit x1)
    · rename_i hx
      split at he
      · exact aleave_sound h hrun ht e1 he (fun hb => by rename_i hro; have := h.fr.ro; rw [hro, hb] at this; exact this.elim) fun l c1 cs1 u w' hb hkd hr => stepR_round_exit hb hkd (aexitTo_none e2 hx) hr
      · cases he
  case h_14 id ops dr k htd =>
    rw [htd] at h2
    obtain ⟨hk, ht⟩ := h2.plain (by simp) (by simp)
    obtain ⟨k', e1, e2⟩ := hk.code
    split at he
    · rename_i ps hps
      cases he
      cases dr with
      | false =>
        simp [plan] at hps
        subst hps
        have hs := stepR_region (P := P) (b := c) (a := ⟨c.tmps, c.defers⟩) (k := k') (cs := cs ++ base) (w := w) (ops := ops) (id := id)
        rw [← e1, atR_self h1] at hs
        refine ⟨_, cs, w, m, lo, .one hs, h.hr, h.gl, h.le, ⟨h.fr.fn, h.fr.kind, h.fr.ro, h.fr.size, h.fr.defers, ?_⟩, h.cs⟩
        unfold MR
        simp only [hrun]
        exact ⟨rfl, _, k', rfl, e2, region_seq ht, by simp⟩
      | true =>
        simp [plan] at hps
        have hs := stepR_region_draw (P := P) (b := c) (a := ⟨c.tmps, c.defers⟩) (k := k') (cs := cs ++ base) (w := w) (ops := ops) (id := id)
        rw [← e1, atR_self h1, hmix] at hs
        refine ⟨_, cs, _, m, lo, .one hs, h.hr.drew _, h.gl, h.le, ⟨h.fr.fn, h.fr.kind, h.fr.ro, h.fr.size, h.fr.defers, ?_⟩, h.cs⟩
        unfold MR
        simp only [hrun]
        exact ⟨rfl, _, k', rfl, e2, region_draw hps ht _, by simp⟩
    · cases he
  case h_15 htd =>
    cases he
    exact regend_sound h hrun htd
  case h_16 htd => exact hop _ _ _ _ _ htd he
  case h_17 f ps as body k htd =>
    rw [htd] at h2
    obtain ⟨hk, ht⟩ := h2.plain (by simp) (by simp)
    obtain ⟨k', e1, e2⟩ := hk.code
    split at he
    · cases he
    · rename_i hro
      have hcr := h.fr.ro
      rw [hro] at hcr
      have hcr := hcr.none'
      split at he
      · rename_i g first cap hev
        split at he
        · rename_i hen
          simp only at he
          split at he
          · rename_i fr' henter
            cases he
            exact range_goes h hrun htd e1 e2 ht hro hcr hev hen henter
          · cases he
        · cases he
      · cases he
  case h_18 k htd =>
    rw [htd] at h2
    obtain ⟨hk, ht⟩ := h2.plain (by simp) (by simp)
    obtain ⟨k', e1, e2⟩ := hk.begin_
    split at he
    · rename_i l hro
      split at he
      · rename_i pe fn sz tm ps as body ds ho
        cases he
        have hcr := h.fr.ro
        rw [hro] at hcr
        cases hc : c.roundOf with
        | none => rw [hc] at hcr; exact hcr.elim
        | some l' =>
          rw [hc] at hcr
          obtain ⟨y, hy, rfl⟩ := hcr
          obtain ⟨r, r1, r2, r3, r4, r5, r6, r7, r8, r9, hput⟩ := turn_loop h.hr ho hy
          have hb : (Instr.beginRound y.c).run P w = .ok () { w with heap := w.heap.setIfInBounds y.c (.loop { r with state := .busy, pending := pe }) } := by
            simp only [Instr.beginRound, Sem.run_bind, run_getLoop r1, Result.andThen_ok, run_setLoop r1, r2]
            rw [← r3]; rfl
          have hs := stepR_beginRound (P := P) (b := c) (a := ⟨c.tmps, c.defers⟩) (k := k') (cs := cs ++ base) hc hb
          rw [← e1, atR_self h1] at hs
          refine ⟨_, cs, _, m, lo, .one hs, hput _ _, h.gl, h.le, ⟨h.fr.fn, h.fr.kind, h.fr.ro, h.fr.size, h.fr.defers, ?_⟩, h.cs.keep (Nat.le_refl _) (put_keep hy)⟩
          unfold MR
          simp only [hrun]
          exact ⟨rfl, TodoR.of e2 ht⟩
      · cases he
    · cases he
  case h_19 l k htd =>
    rw [htd] at h2
    obtain ⟨hk, ht⟩ := h2.plain (by simp) (by simp)
    obtain ⟨y, k', e1, hy, e2⟩ := hk.endRange
    split at he
    · cases he
    · rename_i st pe fn sz tm ps as body ds hne ho
      have hst : st ≠ .busy := by
        intro e; subst e; exact hne rfl
      obtain ⟨r, r1, r2, r3, r4, r5, r6, r7, r8, r9, hput⟩ := turn_loop h.hr ho hy
      have hb : (Instr.endLoop y.c).run P w = .ok pe { w with heap := w.heap.setIfInBounds y.c (.loop { r with state := .exhausted, pending := pe }) } := by
        have hnb : (r.state == .busy) = false := by rw [r2]; cases st <;> first | rfl | exact absurd rfl hst
        simp only [Instr.endLoop, Sem.run_bind, run_getLoop r1, Result.andThen_ok, hnb, Bool.false_eq_true, if_false, Sem.run_pure, run_setLoop r1]
        rw [← r3]
      have hs := stepR_endRangeFunc (P := P) (b := c) (a := ⟨c.tmps, c.defers⟩) (k := k') (cs := cs ++ base) hb
      rw [← e1, atR_self h1] at hs
      have hgo : ∀ (todo : List AItem), KR m todo ((pe.map Item.code).toList ++ k') → Goes P w0 ⟨{ am.fr with todo := todo }, am.cs, am.H.put l (.loop .exhausted pe fn sz tm ps as body ds)⟩ c cs base w := by
        intro todo hkr
        refine ⟨_, cs, _, m, lo, .one hs, hput _ _, h.gl, h.le, ⟨h.fr.fn, h.fr.kind, h.fr.ro, h.fr.size, h.fr.defers, ?_⟩, h.cs.keep (Nat.le_refl _) (put_keep hy)⟩
        unfold MR
        simp only [hrun]
        exact ⟨rfl, TodoR.of hkr ht⟩
      simp only at he
      split at he
      · cases he; exact hgo _ e2
      · cases he; exact hgo _ e2.cc
    · cases he
  case h_20 => cases he

end
end Go.AE
