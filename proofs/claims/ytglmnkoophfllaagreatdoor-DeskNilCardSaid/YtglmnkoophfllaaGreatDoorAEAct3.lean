/-
  The abstract machine's active operations, all of them, against the model's.
-/
import Derived.Test.YtglmnkoophfllaaGreatDoorAEExt
namespace Go.AE
open Go

section
variable {P : Program} {w0 : World} {m : MP} {H : AH} {w : World} {a : Act} {t : T AV}

def DR (m : MP) : ADefer → Deferred → Prop
  | .fn f args cap, d => ∃ as cs, concL m args = some as ∧ concL m cap = some cs ∧ d = { target := .fn (.func f) cs.toArray, args := as.toArray }
  | .mark r, d => ∃ y, m r = some y ∧ d = { target := .collected y.c, args := #[] }
theorem DR.mono {m m' : MP} {d : ADefer} {e : Deferred} (h : Ext m m') (hd : DR m d e) : DR m' d e := by
  cases d with
  | fn f args cap => obtain ⟨as, cs, h1, h2, h3⟩ := hd; exact ⟨as, cs, concL_mono h _ _ h1, concL_mono h _ _ h2, h3⟩
  | mark r => obtain ⟨y, h1, h2⟩ := hd; exact ⟨y, h _ _ h1, h2⟩

theorem enterable_fn {f : Nat} (h : enterable P f = true) : ∃ fn, P.funcs[f]? = some fn ∧ (fn.name == "runtime.NumGoroutine") = false ∧ fn.body.isSome = true := by
  unfold enterable at h
  split at h
  · rename_i fn hf
    split at h
    · cases h
    · rename_i hn; exact ⟨fn, hf, hn, h⟩
  · cases h
theorem run_callFunc {f : Nat} (h : enterable P f = true) (args : Array Value) : (callFunc f args).run P w = .ok (.enter f args) w := by
  obtain ⟨fn, h1, h2, h3⟩ := enterable_fn h
  have h4 : fn.body.isNone = false := by cases hb : fn.body <;> simp_all
  simp only [callFunc, Sem.run_bind, run_program, h1, Result.andThen_ok, h2, h4, Bool.false_eq_true, if_false, Sem.run_pure]

/-- What an active operation of the abstract machine's is in the model. -/
def AOk (P : Program) (w0 : World) (m : MP) (H : AH) (w : World) : AR → Result Next → Prop
  | .val v H', r => ∃ m' w' u, (r = .ok (.value u) w' ∨ r = .ok .skip w' ∧ u = undef) ∧ conc m' v = some u ∧ HR P w0 m' H' w' ∧ Grow m m' H H'
  | .enter f args, r => ∃ as : Array Value, r = .ok (.enter f as) w ∧ concL m args = some as.toList
  | .round l args, r => ∃ y as, m l = some y ∧ r = (Instr.yield y.c as).run P w ∧ concL m args = some as.toList
  | .defer d, r => ∃ e, r = .ok (.defer e) w ∧ DR m d e
  | .panic v, r => ∃ u, r = .halt (.panic u) w ∧ conc m v = some u
  | .recover, r => r = .ok .recover w

theorem VOk.value {v : AV} {H' : AH} {r : Result Value} (h : VOk P w0 m H v H' r) : AOk P w0 m H w (.val v H') (r.andThen fun a w' => .ok (.value a) w') := by
  obtain ⟨m', w', u, rfl, h1, h2, h3⟩ := h
  exact ⟨m', w', u, .inl rfl, h1, h2, h3⟩

theorem aappend_val {ts : List TypeId} {args : List AV} {r : AR} (h : aappend P H ts args = some r) : ∃ v H', r = .val v H' := by
  unfold aappend aappendAt at h
  repeat' (first | (cases h; exact ⟨_, _, rfl⟩) | (simp at h; done) | split at h)
theorem acopy_val {ts : List TypeId} {args : List AV} {r : AR} (h : acopy P H ts args = some r) : ∃ v H', r = .val v H' := by
  unfold acopy at h
  repeat' (first | (cases h; exact ⟨_, _, rfl⟩) | (simp at h; done) | split at h | (simp only at h; split at h))
theorem adelete_val {ts : List TypeId} {args : List AV} {r : AR} (h : adelete P H ts args = some r) : ∃ v H', r = .val v H' := by
  unfold adelete at h
  repeat' (first | (cases h; exact ⟨_, _, rfl⟩) | (simp at h; done) | split at h)
theorem aclear_val {ts : List TypeId} {args : List AV} {r : AR} (h : aclear P H ts args = some r) : ∃ v H', r = .val v H' := by
  unfold aclear at h
  repeat' (first | (cases h; exact ⟨_, _, rfl⟩) | (simp at h; done) | split at h)
theorem amapUpdate_val {ty : TypeId} {x k v : AV} {r : AR} (h : amapUpdate P H ty x k v = some r) : ∃ v H', r = .val v H' := by
  unfold amapUpdate at h
  repeat' (first | (cases h; exact ⟨_, _, rfl⟩) | (simp at h; done) | split at h)

theorem anext_val {x : AV} {r : AR} (h : anext H x = some r) : ∃ v H', r = .val v H' := by
  unfold anext at h
  repeat' (first | (cases h; exact ⟨_, _, rfl⟩) | (simp at h; done) | split at h)

theorem acall_sound (hr : HR P w0 m H w) (hG : GL P m) (ht : TR m t a.tmps) {o : Oper} {c : Call} (ho : o.op = .call c) {r : AR} (h : acall P H t c = some r) : AOk P w0 m H w r ((execOp a.eval o).run P w) := by
  unfold acall at h
  cases hvs : aevs P t c.args.toList with
  | none => simp [hvs] at h
  | some vs =>
    simp only [hvs] at h
    have hc := aevs_conc hG ht hvs
    have hargs : c.args.map a.eval = (c.args.toList.map a.eval).toArray := by apply Array.ext'; simp
    have hb : ∀ b, c.callee = .builtin b → (execOp a.eval o).run P w = (builtin b c.argTypes o.type (c.args.map fun | .const _ => true | _ => false) (c.args.toList.map a.eval).toArray).run P w := by
      intro b hcb
      simp only [execOp, ho, resolve, hcb, Sem.run_bind, Sem.run_pure, Result.andThen_ok, invoke, hargs]
      rfl
    have hts : c.argTypes = c.argTypes.toList.toArray := by simp
    split at h
    case h_1 f hcf =>
      split at h
      case h_1 g first cap hf =>
        cases he : enterable P g with
        | false =>
          simp [he] at h
          obtain ⟨p', q', hp, hq, e⟩ := conc_func (aev_conc hG ht hf)
          have hcc : concL m (first ++ vs ++ cap) = some (p'.toArray ++ c.args.map a.eval ++ q'.toArray).toList := by
            simp only [Array.toList_append]
            have := concL_append (concL_append hp hc) hq
            simpa using this
          rw [← List.append_assoc] at h
          obtain ⟨v, u, rfl, h1, h2⟩ := aextern_sound hr hG h hcc
          refine ⟨m, w, u, .inl ?_, h2, hr, Grow.refl m H⟩
          simp only [execOp, ho, resolve, hcf, Sem.run_bind, e, Deferred.ofValue, Sem.run_pure, Result.andThen_ok, invoke]
          have hl : (p'.toArray ++ c.args.map a.eval ++ q'.toArray).toList.toArray = p'.toArray ++ c.args.map a.eval ++ q'.toArray := by simp
          rw [hl] at h1
          exact h1
        | true =>
          simp [he] at h; subst h
          obtain ⟨p', q', hp, hq, e⟩ := conc_func (aev_conc hG ht hf)
          refine ⟨p'.toArray ++ c.args.map a.eval ++ q'.toArray, ?_, ?_⟩
          · simp only [execOp, ho, resolve, hcf, Sem.run_bind, e, Deferred.ofValue, Sem.run_pure, Result.andThen_ok, invoke, run_callFunc he]
          · simp only [Array.toList_append]
            have := concL_append (concL_append hp hc) hq
            simpa using this
      case h_2 l hf =>
        cases h
        obtain ⟨y, hy, e⟩ := conc_yieldF (aev_conc hG ht hf)
        refine ⟨y, c.args.map a.eval, hy, ?_, by simpa using hc⟩
        simp only [execOp, ho, resolve, hcf, Sem.run_bind, e, Deferred.ofValue, Sem.run_pure, Result.andThen_ok, invoke]
        simp
      case h_3 => simp at h
    case h_2 hcb =>
      obtain ⟨v, H', rfl⟩ := aappend_val h
      have := (aappend_sound (tt := o.type) hr h hc).value (w := w)
      rw [hb _ hcb, hts]
      simpa [builtin] using this
    case h_3 hcb =>
      obtain ⟨v, H', rfl⟩ := acopy_val h
      have := (acopy_sound (tt := o.type) hr h hc).value (w := w)
      rw [hb _ hcb, hts]
      simpa [builtin] using this
    case h_4 hcb =>
      obtain ⟨v, H', rfl⟩ := adelete_val h
      have := (adelete_sound (tt := o.type) hr h hc).value (w := w)
      rw [hb _ hcb, hts]
      simpa [builtin] using this
    case h_5 hcb =>
      obtain ⟨v, H', rfl⟩ := aclear_val h
      have := (aclear_sound (tt := o.type) hr h hc).value (w := w)
      rw [hb _ hcb, hts]
      simpa [builtin] using this
    case h_6 hcb =>
      obtain ⟨v, H', rfl, h1⟩ := aunsafeString_sound (tt := o.type) hr h hc
      have := h1.value (w := w)
      rw [hb _ hcb, hts]
      simpa [builtin] using this
    case h_7 hcb =>
      cases h
      show _ = _
      rw [hb _ hcb]
      rfl
    case h_8 => simp at h

theorem aact_sound (hr : HR P w0 m H w) (hG : GL P m) (ht : TR m t a.tmps) {o : Oper} {r : AR} (h : aact P H t o = some r) : AOk P w0 m H w r ((execOp a.eval o).run P w) := by
  unfold aact at h
  split at h
  case h_1 x ho =>
    cases hx : aev P t x with
    | none => simp [hx] at h
    | some v =>
      simp [hx] at h; subst h
      exact ⟨m, w, a.eval x, .inl (by simp [execOp, ho]), aev_conc hG ht hx, hr, Grow.refl m H⟩
  case h_2 ty p x ho =>
    split at h
    case h_2 => simp at h
    case h_1 b off v hp hx =>
      cases hst : storeT P H ty b off v with
      | none => simp [hst] at h
      | some H1 =>
        simp [hst] at h; subst h
        obtain ⟨y, hy, e⟩ := conc_ptr (aev_conc hG ht hp)
        obtain ⟨w', h1, h2, h3⟩ := run_storeT hr hst hy (aev_conc hG ht hx)
        refine ⟨m, w', undef, .inr ⟨?_, rfl⟩, by simp [conc], h2, storeT_grow hst hy h3⟩
        simp [execOp, ho, e, Instr.storeAt, Instr.sureAddr, h1]
  case h_3 ty x k v ho =>
    split at h
    case h_2 => simp at h
    case h_1 p q s hx hk hv =>
      obtain ⟨rr, H', rfl⟩ := amapUpdate_val h
      obtain ⟨rfl, m', w', h1, h2, h3⟩ := amapUpdate_sound hr h (aev_conc hG ht hx) (aev_conc hG ht hk) (aev_conc hG ht hv)
      exact ⟨m', w', undef, .inr ⟨by simp [execOp, ho, h1], rfl⟩, by simp [conc], h2, h3⟩
  case h_4 ty x k v ho =>
    split at h
    case h_2 => simp at h
    case h_1 p q s hx hk hv =>
      obtain ⟨rr, H', rfl⟩ := amapUpdate_val h
      obtain ⟨rfl, m', w', h1, h2, h3⟩ := amapUpdate_sound hr h (aev_conc hG ht hx) (aev_conc hG ht hk) (aev_conc hG ht hv)
      exact ⟨m', w', undef, .inr ⟨by simp [execOp, ho, h1], rfl⟩, by simp [conc], h2, h3⟩
  case h_5 c ho => exact acall_sound hr hG ht ho h
  case h_6 x ho =>
    cases hx : aev P t x with
    | none => simp [hx] at h
    | some v =>
      simp only [hx] at h
      obtain ⟨rr, H', rfl⟩ := anext_val h
      obtain ⟨m', w', u, h1, h2, h3, h4⟩ := anext_sound (ty := o.type) hr h (aev_conc hG ht hx)
      exact ⟨m', w', u, .inl (by simp [execOp, ho, h1]), h2, h3, h4⟩
  case h_7 c ho =>
    cases hvs : aevs P t c.args.toList with
    | none => simp [hvs] at h
    | some vs =>
      simp only [hvs] at h
      have hc := aevs_conc hG ht hvs
      split at h
      case h_2 => simp at h
      case h_1 f hcf =>
        split at h
        case h_2 => simp at h
        case h_1 g first cap hf =>
          cases he : enterable P g with
          | false => simp [he] at h
          | true =>
            simp [he] at h; subst h
            obtain ⟨p', q', hp, hq, e⟩ := conc_func (aev_conc hG ht hf)
            refine ⟨{ target := .fn (.func g) q'.toArray, args := p'.toArray ++ c.args.map a.eval }, ?_, p' ++ c.args.toList.map a.eval, q', concL_append hp hc, hq, ?_⟩
            · simp only [execOp, ho, resolve, hcf, Sem.run_bind, e, Deferred.ofValue, Sem.run_pure, Result.andThen_ok]
            · congr 1
              apply Array.ext'; simp
  case h_8 x ho =>
    split at h
    case h_2 => simp at h
    case h_1 ty v hx =>
      cases h
      have hc := aev_conc hG ht hx
      obtain ⟨y, hy, e⟩ := conc_iface hc
      exact ⟨a.eval x, by simp [execOp, ho, e, Instr.panic], hc⟩
  case h_9 => simp at h
end
end Go.AE
