/-
  A region's state, drawn or not: to the next operation, and behind it.
-/
import Derived.Test.YtglmnkoophfllaaGreatDoorAEReg2
namespace Go.AE
open Go

section
variable {P : Program} {w0 : World} {m m' : MP} {H H' : AH} {w w' : World} {ops : Array Oper} {t t' : T AV} {tmps : Array Value} {lo hi size : Nat} {dr sus : Bool} {rest : List PStep} {L : List Nat}

def RegR (P : Program) (m : MP) (H : AH) (lo hi size : Nat) (ops : Array Oper) (dr sus : Bool) (rest : List PStep) (t : T AV) (tmps : Array Value) (L : List Nat) : Prop :=
  match dr with
  | false => L = rest.map (·.i) ∧ (∀ p ∈ rest, ops[p.i]? = some p.o) ∧ TR m t tmps
  | true => ∃ done, Draw P m H lo hi size ops sus t tmps done rest L

theorem Draw.keep {done : List PStep} (h : Draw P m H lo hi size ops true t tmps done rest L) (hk : Keep hi m m' H H') : Draw P m' H' lo hi size ops true t tmps done rest L := by
  obtain ⟨X, hX, hinj⟩ := h.pend
  refine ⟨h.plan, h.linv, h.rin, h.aout, fun j hj => conc_mono hk.ext _ _ (h.rel j hj), X, fun p hp hpL => ?_, hinj⟩
  obtain ⟨d, h1, h2, h3⟩ := hX p hp hpL
  refine ⟨d, h1, h2, h3.imp id fun ⟨e1, e2⟩ => ⟨e1, e2.imp (fun ⟨e2, e3⟩ => ⟨e2, ?_⟩) fun ⟨x, e2, e3, e4, e5, e6, e7, e8⟩ => ⟨x, e2, e3, e4, ?_⟩⟩⟩
  · cases hl : looks p.o.op with
    | true => exact .inl ⟨rfl, rfl⟩
    | false =>
      rcases e3 with e3 | e3
      · rw [hl] at e3; cases e3.2
      · exact .inr (by rw [← apure_nolooks (H := H) hl]; exact e3)
  · obtain ⟨k1, k2⟩ := hk.old _ e8 e6
    exact ⟨by rw [k2]; exact e5, k1, e7, e8⟩

theorem Draw.susp {done : List PStep} {hi' : Nat} (h : Draw P m H lo hi size ops false t tmps done rest L) (hh : hi ≤ hi') : Draw P m H lo hi' size ops sus t tmps done rest L := by
  obtain ⟨X, hX, hinj⟩ := h.pend
  refine ⟨h.plan, h.linv, h.rin, h.aout, h.rel, X, fun p hp hpL => ?_, hinj⟩
  obtain ⟨d, h1, h2, h3⟩ := hX p hp hpL
  exact ⟨d, h1, h2, h3.imp id fun ⟨e1, e2⟩ => ⟨e1, e2.imp (fun ⟨e2, e3⟩ => ⟨e2, .inr (e3.resolve_left (by simp))⟩) fun ⟨x, e2, e3, e4, e5, e6, e7, e8⟩ => ⟨x, e2, e3, e4, e5, e6, e7, Nat.lt_of_lt_of_le e8 hh⟩⟩⟩

theorem RegR.keep (h : RegR P m H lo hi size ops dr true rest t tmps L) (hk : Keep hi m m' H H') : RegR P m' H' lo hi size ops dr true rest t tmps L := by
  cases dr with
  | false => exact ⟨h.1, h.2.1, h.2.2.mono hk.ext⟩
  | true => exact let ⟨d, hd⟩ := h; ⟨d, hd.keep hk⟩
theorem RegR.susp {hi' : Nat} (h : RegR P m H lo hi size ops dr false rest t tmps L) (hh : hi ≤ hi') : RegR P m H lo hi' size ops dr sus rest t tmps L := by
  cases dr with
  | false => exact h
  | true => exact let ⟨d, hd⟩ := h; ⟨d, hd.susp hh⟩

theorem RegR.catch (h : RegR P m H lo hi size ops dr false rest t tmps L) (hs : tmps.size = size) (hr : HR P w0 m H w) (hG : GL P m)
    (hrest : dr = true → rest = [] ∨ ∃ p r, rest = p :: r ∧ p.act = true) (b : Frame) (df : List Deferred) (k : List Item) (cs : List Frame) :
    ∃ m' w' tmps' L', Steps P (lone (b.atR ⟨tmps, df⟩ (.inRegion ops L :: k)) cs w) (lone (b.atR ⟨tmps', df⟩ (.inRegion ops L' :: k)) cs w') ∧
      RegR P m' H lo hi size ops dr false rest t tmps' L' ∧ tmps'.size = size ∧ HR P w0 m' H w' ∧ Keep lo m m' H H ∧
      (rest = [] → L' = []) ∧ ∀ p r, rest = p :: r → ∃ L2, L' = p.i :: L2 := by
  cases dr with
  | false =>
    refine ⟨m, w, tmps, L, Steps.refl _ _, h, hs, hr, Keep.refl _ _ _, fun e => ?_, fun p r e => ?_⟩
    · rw [h.1, e]; rfl
    · rw [h.1, e]; exact ⟨_, rfl⟩
  | true =>
    obtain ⟨done, hd⟩ := h
    obtain ⟨m1, w1, t1, L1, h1, h2, h3⟩ := Draw.catch L hd hs hr hG (hrest rfl) b df k cs
    exact ⟨m1, w1, t1, L1, h1, ⟨done, h2⟩, h3⟩

/-- At the region's end nothing is out of sight. -/
theorem RegR.done (h : RegR P m H lo hi size ops dr false [] t tmps []) : TR m t tmps := by
  cases dr with
  | false => exact h.2.2
  | true => obtain ⟨d, hd⟩ := h; exact fun j => hd.rel j fun p _ hp => by simp at hp

/-- An operation stands at the head: it may be run over temporaries that are all in sight. -/
theorem RegR.ready {p : PStep} (h : RegR P m H lo hi size ops dr false (p :: rest) t tmps (p.i :: L)) (ha : dr = true → p.act = true) :
    ops[p.i]? = some p.o ∧ Region.wanted p.o (yielded ops tmps) = awanted ops t p.o ∧
    ∃ (t2 : T AV) (A : Array Value), TR m t2 A ∧ Ag t t2 p.o.op.operands.toList ∧ ((∀ cs b, p.o.op ≠ .select cs b) → ∀ df, execOp (⟨tmps, df⟩ : Act).eval p.o = execOp (⟨A, []⟩ : Act).eval p.o) := by
  cases dr with
  | false =>
    obtain ⟨h1, h2, h3⟩ := h
    exact ⟨h2 p (by simp), wanted_eq fun j b g d _ _ _ => h3 d, t, tmps, h3, fun _ _ => rfl, fun _ _ => rfl⟩
  | true =>
    obtain ⟨done, hd⟩ := h
    have ok := hd.ok
    obtain ⟨h1, h2⟩ := hd.sees (p := p) (by simp)
    refine ⟨by have := ok.at_ p (by simp); simpa using this, wanted_eq h1, patchT t (pendD done (p.i :: L)), patchA tmps (pendD done (p.i :: L)),
      patch_TR fun j hj => hd.rel j fun q hq hqL e => hj (mem_pendD.2 ⟨q, hq, hqL, e⟩), ?_⟩
    have hop : ∀ i ∈ tmpsIn p.o.op.operands.toList, i ∉ pendD done (p.i :: L) := by
      intro i hi' hm
      obtain ⟨q, hq, hqL, hqd⟩ := mem_pendD.1 hm
      have hqa : q.act = false := by
        cases hqa : q.act with
        | false => rfl
        | true => exact absurd hqL (hd.aout q hq hqa)
      exact h2 q hq hqL ((ok.before hq).read hqa i hqd hi')
    exact ⟨patch_Ag hop, fun hs df => patch_exec hs hop df []⟩

theorem recheck_mem : ∀ {l : List Nat} {i : Nat} {o : Oper} {d : Nat}, recheck P H ops t l = true → i ∈ l → ops[i]? = some o → o.dst = some d → awanted ops t o = true → apure P H t o = some (tget t d)
  | [], i, o, d, _, hi, _, _, _ => by simp at hi
  | x :: l, i, o, d, h, hi, ho, hd, hw => by
    unfold recheck at h
    simp only [nthO_eq, Array.getElem?_toList] at h
    cases hx : ops[x]? with
    | none => simp [hx] at h
    | some ox =>
      simp only [hx] at h
      cases hdx : ox.dst with
      | none => simp [hdx] at h
      | some dx =>
        simp only [hdx] at h
        rcases List.mem_cons.1 hi with rfl | hi
        · rw [hx] at ho; cases ho
          rw [hd] at hdx; cases hdx
          simp only [hw] at h
          split at h
          · simp at h
          · rename_i v hv
            split at h
            · rename_i he; rw [hv, avEq_eq _ _ he]
            · simp at h
        · split at h
          · exact recheck_mem h hi ho hd hw
          · split at h
            · simp at h
            · split at h
              · exact recheck_mem h hi ho hd hw
              · simp at h

theorem aput_get {size : Nat} {d : Option Nat} {v : AV} (h : aput size t d v = some t') : (∀ j, d ≠ some j → tget t' j = tget t j) ∧ ∀ e, d = some e → e < size ∧ tget t' e = v := by
  cases d with
  | none => simp [aput] at h; subst h; exact ⟨fun _ _ => rfl, fun _ e => by cases e⟩
  | some d =>
    unfold aput at h
    simp only at h
    split at h
    · rename_i hlt
      simp at h; subst h
      refine ⟨fun j hj => ?_, fun e he => ?_⟩
      · rw [tget_set, if_neg]; exact fun e => hj (by rw [e])
      · cases he; rw [tget_set]; simp at hlt ⊢; exact hlt
    · simp at h

theorem put_get {d : Option Nat} {u : Value} {df : List Deferred} : (∀ j, d ≠ some j → ((⟨tmps, df⟩ : Act).put d u).tmps.getD j undef = tmps.getD j undef) ∧
    (∀ e, d = some e → e < tmps.size → ((⟨tmps, df⟩ : Act).put d u).tmps.getD e undef = u) ∧ ((⟨tmps, df⟩ : Act).put d u).tmps.size = tmps.size ∧ ((⟨tmps, df⟩ : Act).put d u).defers = df := by
  cases d with
  | none => exact ⟨fun _ _ => rfl, fun _ e => (by cases e), rfl, rfl⟩
  | some d =>
    refine ⟨fun j hj => ?_, fun e he hlt => ?_, by simp [Act.put], rfl⟩
    · simp only [Act.put, Array.getD_eq_getD_getElem?, Array.getElem?_setIfInBounds]
      rw [if_neg]; exact fun e => hj (by rw [e])
    · cases he
      simp only [Act.put]; rw [getD_set _ _ _ _ hlt]; simp

/-- The operation at the head has come to a value. -/
theorem RegR.fin {p : PStep} {v : AV} {u : Value} {hi' : Nat} {df : List Deferred} (h : RegR P m H lo hi size ops dr sus (p :: rest) t tmps (p.i :: L)) (ha : dr = true → p.act = true) (hk : Keep hi m m' H H')
    (hs : tmps.size = size) (hp : aput size t p.o.dst v = some t') (hv : conc m' v = some u) (hc : recheck P H' ops t' p.re = true) (hh : hi ≤ hi') :
    RegR P m' H' lo hi' size ops dr false rest t' ((⟨tmps, df⟩ : Act).put p.o.dst u).tmps L := by
  obtain ⟨g1, g2⟩ := aput_get hp
  obtain ⟨q1, q2, _, _⟩ := put_get (tmps := tmps) (d := p.o.dst) (u := u) (df := df)
  cases dr with
  | false =>
    obtain ⟨h1, h2, h3⟩ := h
    simp at h1
    refine ⟨h1, fun p hp => h2 p (by simp [hp]), fun j => ?_⟩
    by_cases e : p.o.dst = some j
    · obtain ⟨e1, e2⟩ := g2 j e
      rw [e2, q2 j e (hs ▸ e1)]; exact hv
    · rw [g1 j e, q1 j e]; exact conc_mono hk.ext _ _ (h3 j)
  | true =>
    obtain ⟨done, hd⟩ := h
    have ha := ha rfl
    have ok := hd.ok
    have hnd := List.nodup_cons.1 hd.linv.nodup
    have hanc := anc_of_head ok hd.linv (p := p) (by simp)
    have hqact : ∀ q ∈ done, q.i ∈ L → q.act = false := fun q hq hqL => by
      cases hqa : q.act with
      | false => rfl
      | true => exact absurd (by simp [hqL]) (hd.aout q hq hqa)
    obtain ⟨X, hX, hinj⟩ := hd.pend
    have haw : ∀ q, q ∈ done → awanted ops t' q.o = awanted ops t q.o := fun q hq =>
      awanted_agree fun j b g dg hg ho hdg => g1 dg (ok.guardNe (.inl hq) hg (by simpa using ho) hdg)
    refine ⟨done ++ [p], by rw [List.append_assoc]; exact hd.plan, hd.linv.tail, fun q hq => ?_, fun q hq hqa hqL => ?_, fun j hj => ?_, X, fun q hq hqL => ?_, fun p1 p2 hp1 hp2 hl1 hl2 hf1 hf2 hw1 hw2 he => ?_⟩
    · rcases List.mem_cons.1 (hd.rin q (by simp [hq])) with e | e
      · exact absurd e.symm (ok.behind hq).ne
      · exact e
    · rcases List.mem_append.1 hq with hq | hq
      · exact hd.aout q hq hqa (by simp [hqL])
      · simp at hq; subst hq; exact hnd.1 hqL
    · by_cases e : p.o.dst = some j
      · obtain ⟨e1, e2⟩ := g2 j e
        rw [e2, q2 j e (hs ▸ e1)]; exact hv
      · rw [g1 j e, q1 j e]
        refine conc_mono hk.ext _ _ (hd.rel j fun q hq hqL => ?_)
        rcases List.mem_cons.1 hqL with e1 | e1
        · exact absurd e1 (ok.before hq).ne
        · exact hj q (by simp [hq]) e1
    · rcases List.mem_append.1 hq with hq | hq
      · obtain ⟨dq, h1, h2, h3⟩ := hX q hq (by simp [hqL])
        have hb := ok.before hq
        have hdq : p.o.dst ≠ some dq := hb.dst dq h1
        have hag : Ag t' t q.o.op.operands.toList := fun i hi' => g1 i fun e =>
          hanc _ (hb.write (hqact q hq hqL) i e hi').2 (by simp [hqL])
        refine ⟨dq, h1, h2, ?_⟩
        rw [haw q hq, g1 dq hdq]
        refine h3.imp id fun ⟨e1, e2⟩ => ⟨e1, e2.imp (fun ⟨e2, e3⟩ => ⟨e2, .inr ?_⟩) fun ⟨x, e2, e3, e4, e5, e6, e7, e8⟩ => ⟨x, e2, ?_⟩⟩
        · cases hl : looks q.o.op with
          | false =>
            rcases e3 with e3 | e3
            · rw [hl] at e3; cases e3.2
            · rw [apure_congr hag, ← apure_nolooks (H := H) hl]; exact e3
          | true =>
            rcases hb.re (hqact q hq hqL) ha hl with h | h
            · exact absurd (by simp [hqL]) (hanc _ h)
            · have := recheck_mem (d := dq) (o := q.o) hc h (by have := ok.at_ q (by simp [hq]); simpa using this) h1 (by rw [haw q hq]; exact e1)
              rw [this, g1 dq hdq]
        · obtain ⟨k1, k2⟩ := hk.old _ e8 e6
          exact ⟨by rw [afresh_congr hag]; exact e3, e4, by rw [k2]; exact e5, k1, e7, Nat.lt_of_lt_of_le e8 hh⟩
      · simp at hq; subst hq; exact absurd hqL hnd.1
    · rcases List.mem_append.1 hp1 with k1 | k1
      · rcases List.mem_append.1 hp2 with k2 | k2
        · rw [haw p1 k1] at hw1; rw [haw p2 k2] at hw2
          exact hinj p1 p2 k1 k2 (by simp [hl1]) (by simp [hl2]) hf1 hf2 hw1 hw2 he
        · simp at k2; rw [k2] at hl2; exact absurd hl2 hnd.1
      · simp at k1; rw [k1] at hl1; exact absurd hl1 hnd.1

end
end Go.AE
