/-
  The abstract machine's operations against the model's: what only reckons or reads.
-/
import Derived.Test.YtglmnkoophfllaaGreatDoorAEMem
namespace Go.AE
open Go

section
variable {P : Program} {w0 : World} {m : MP} {H : AH} {w : World} {a : Act} {t : T AV}

def GL (P : Program) (m : MP) : Prop := ∀ g, g < P.globals.size → m g = some ⟨g, 0, 0⟩
theorem GL.mono {m m' : MP} (h : Ext m m') (hg : GL P m) : GL P m' := fun g hlt => h _ _ (hg g hlt)

theorem ofConst_conc (m : MP) : ∀ {v : Value} {x : AV}, ofConst v = some x → conc m x = some v := by
  intro v x h
  unfold ofConst at h
  split at h <;> first
    | (cases h; simp [conc]; done)
    | (simp at h; done)
    | (rename_i f a b; obtain ⟨a⟩ := a; obtain ⟨b⟩ := b; cases a <;> cases b <;> simp at h; subst h; simp [conc, concL])

theorem ofConst_und {v : Value} {x : AV} (h : ofConst v = some x) : x ≠ .und := by
  rintro rfl
  unfold ofConst at h
  split at h <;> first
    | (simp at h; done)
    | (split at h <;> simp at h)

theorem aev_conc (hG : GL P m) (ht : TR m t a.tmps) : ∀ {x : Operand} {v : AV}, aev P t x = some v → conc m v = some (a.eval x) := by
  intro x v h
  cases x with
  | tmp i => simp [aev] at h; subst h; exact ht i
  | const c => exact ofConst_conc m h
  | global g =>
    simp only [aev] at h
    cases hb : Nat.blt g P.globals.size with
    | false => simp [hb] at h
    | true =>
      simp [hb] at h; subst h
      have : g < P.globals.size := by simpa [Nat.blt_eq] using hb
      simp [conc, hG g this, Act.eval]
  | func f => simp [aev] at h; subst h; simp [conc, concL, Act.eval]

theorem aevs_conc (hG : GL P m) (ht : TR m t a.tmps) : ∀ {l : List Operand} {vs : List AV}, aevs P t l = some vs → concL m vs = some (l.map a.eval) := by
  intro l
  induction l with
  | nil => intro vs h; simp [aevs] at h; subst h; rfl
  | cons x xs ih =>
    intro vs h
    simp only [aevs] at h
    cases hx : aev P t x with
    | none => simp [hx] at h
    | some v => cases hs : aevs P t xs with
      | none => simp [hx, hs] at h
      | some vs' =>
        simp [hx, hs] at h; subst h
        exact concL_cons.2 ⟨_, _, rfl, aev_conc hG ht hx, ih hs⟩

/-- Related parts: place by place. -/
def PR (m : MP) : List (Nat × AV) → List (Nat × Value) → Prop
  | [], [] => True
  | (i, x) :: l, (j, v) :: r => i = j ∧ conc m x = some v ∧ PR m l r
  | _, _ => False

theorem aparts_conc (hG : GL P m) (ht : TR m t a.tmps) : ∀ {l : List (Nat × Operand)} {ps : List (Nat × AV)}, aparts P t l = some ps → PR m ps (l.map fun (i, x) => (i, a.eval x)) := by
  intro l
  induction l with
  | nil => intro ps h; simp [aparts] at h; subst h; trivial
  | cons x xs ih =>
    obtain ⟨i, x⟩ := x
    intro ps h
    simp only [aparts] at h
    cases hx : aev P t x with
    | none => simp [hx] at h
    | some v => cases hs : aparts P t xs with
      | none => simp [hx, hs] at h
      | some vs' =>
        simp [hx, hs] at h; subst h
        exact ⟨rfl, aev_conc hG ht hx, ih hs⟩

theorem ofConstL_conc (m : MP) : ∀ {l : List Value} {vs : List AV}, ofConstL l = some vs → concL m vs = some l := by
  intro l
  induction l with
  | nil => intro vs h; simp [ofConstL] at h; subst h; rfl
  | cons x xs ih =>
    intro vs h
    simp only [ofConstL] at h
    cases hx : ofConst x with
    | none => simp [hx] at h
    | some v => cases hs : ofConstL xs with
      | none => simp [hx, hs] at h
      | some vs' =>
        simp [hx, hs] at h; subst h
        exact concL_cons.2 ⟨_, _, rfl, ofConst_conc m hx, ih hs⟩

theorem run_typeInfo' {t : TypeId} {i : TypeInfo} (h : P.info? t = some i) : (typeInfo t).run P w = .ok i w := by simp [typeInfo, h]

theorem zeroOf_run (m : MP) {t : TypeId} {z : AV} (h : zeroOf P t = some z) (w : World) : ∃ u, (zeroValue t).run P w = .ok u w ∧ conc m z = some u ∧ z ≠ .und := by
  unfold zeroOf at h
  cases hi : P.info? t with
  | none => simp [hi] at h
  | some i =>
    simp only [hi] at h
    cases hz : i.zero with
    | none => simp [hz] at h
    | some v =>
      simp only [hz] at h
      have hrun : (zeroValue t).run P w = .ok v w := by simp [zeroValue, run_typeInfo' hi, hz]
      refine ⟨v, hrun, ?_⟩
      cases v with
      | agg cs =>
        simp only at h
        cases hl : ofConstL cs.toList with
        | none => simp [hl] at h
        | some l =>
          simp [hl] at h; subst h
          exact ⟨conc_agg.2 ⟨_, ofConstL_conc m hl, by simp⟩, by simp⟩
      | _ => exact ⟨ofConst_conc m h, ofConst_und h⟩

/-- A part of an aggregate. -/
theorem partOf_run {t : TypeId} {cs : List AV} {us : List Value} {off : Nat} {v : AV} (h : partOf P t cs off = some v) (hu : concL m cs = some us) (w : World) :
    ∃ u, (part t us.toArray off).run P w = .ok u w ∧ conc m v = some u := by
  unfold partOf at h
  cases ha : aggT P t with
  | none => simp [ha] at h
  | some bb => cases bb with
    | true =>
      simp only [ha] at h
      cases hs : sizeOfT P t with
      | none => simp [hs] at h
      | some n =>
        simp only [hs] at h
        cases hl : takeN n (dropN off cs) with
        | none => simp [hl] at h
        | some l =>
          simp [hl] at h; subst h
          obtain ⟨h1, h2⟩ := takeN_get _ _ _ hl
          have hc : concL m l = some ((us.drop off).take n) := by
            have key : ∀ (i : Nat) (a : AV), l[i]? = some a → ∃ v, us[off + i]? = some v ∧ conc m a = some v := fun i a e => by
              have hi : i < n := by have := (List.getElem?_eq_some_iff.1 e).1; omega
              rw [h2 i hi, dropN_get] at e
              exact concL_get hu _ _ e
            refine concL_of_get ?_ fun i a e => ?_
            · simp [h1]
              rcases Nat.eq_zero_or_pos n with h0 | h0
              · omega
              · obtain ⟨v, hv, _⟩ := key (n - 1) _ (List.getElem?_eq_getElem (by omega))
                have := (List.getElem?_eq_some_iff.1 hv).1
                omega
            · obtain ⟨v, hv, hc⟩ := key i a e
              have hi : i < n := by have := (List.getElem?_eq_some_iff.1 e).1; omega
              exact ⟨v, by rw [List.getElem?_take_of_lt hi, List.getElem?_drop]; exact hv, hc⟩
          refine ⟨.agg ((us.drop off).take n).toArray, ?_, conc_agg.2 ⟨_, hc, rfl⟩⟩
          simp only [part, Sem.run_bind, run_isAgg ha, run_sizeOf hs, Result.andThen_ok, if_true, Sem.run_pure]
          congr 2
          apply Array.ext'
          simp
    | false =>
      simp only [ha] at h
      have hg := dropN_get off cs 0
      cases hd : dropN off cs with
      | nil => simp [hd] at h
      | cons y ys =>
        simp [hd] at h; subst h
        rw [hd] at hg
        simp at hg
        obtain ⟨u, hu', hc⟩ := concL_get hu off y hg.symm
        refine ⟨u, ?_, hc⟩
        simp [part, run_isAgg ha, hu']

theorem placesOf_run : ∀ {fs : List Field} {pl : List (Nat × Nat)}, placesOf P fs = some pl → ∀ w, (fs.mapM fun f => do pure (f.offset, ← sizeOf f.type) : Sem (List (Nat × Nat))).run P w = .ok pl w := by
  intro fs
  induction fs with
  | nil => intro pl h w; simp [placesOf] at h; subst h; simp
  | cons f fs ih =>
    intro pl h w
    simp only [placesOf] at h
    cases hs : sizeOfT P f.type with
    | none => simp [hs] at h
    | some n => cases hp : placesOf P fs with
      | none => simp [hs, hp] at h
      | some l =>
        simp [hs, hp] at h; subst h
        have := ih hp w
        simp only [List.mapM_cons, Sem.run_bind, run_sizeOf hs, Result.andThen_ok, Sem.run_pure, this]

theorem nthP_get : ∀ (l : List (Nat × Nat)) (i : Nat), nthP l i = l[i]?
  | [], i => by simp [nthP]
  | x :: l, 0 => by simp [nthP]
  | x :: l, i + 1 => by simp [nthP, nthP_get l i]
theorem nthF_get : ∀ (l : List Field) (i : Nat), nthF l i = l[i]?
  | [], i => by simp [nthF]
  | x :: l, 0 => by simp [nthF]
  | x :: l, i + 1 => by simp [nthF, nthF_get l i]
theorem nth_get : ∀ (l : List AV) (i : Nat), nth l i = l[i]?
  | [], i => by simp [nth]
  | x :: l, 0 => by simp [nth]
  | x :: l, i + 1 => by simp [nth, nth_get l i]
theorem nthB_get : ∀ (l : List UInt8) (i : Nat), nthB l i = l[i]?
  | [], i => by simp [nthB]
  | x :: l, 0 => by simp [nthB]
  | x :: l, i + 1 => by simp [nthB, nthB_get l i]

/-! ### What is laid -/
theorem foldl_lay (off : Nat) : ∀ (l : List Value) (k : Nat) (cs : Array Value), (l.zipIdx k).foldl (fun (cs : Array Value) (x : Value × Nat) => cs.setIfInBounds (off + x.2) x.1) cs = layArr cs (off + k) l
  | [], k, cs => rfl
  | v :: l, k, cs => by
    simp only [List.zipIdx_cons, List.foldl_cons, layArr]
    rw [foldl_lay off l (k + 1)]
    rfl

theorem concL_lay {xs l r : List AV} {us cs : List Value} {off : Nat} (h : layAt off xs l = some r) (hx : concL m xs = some us) (hl : concL m l = some cs) :
    concL m r = some (layArr cs.toArray off us).toList := by
  obtain ⟨h1, h2, h3⟩ := layAt_get _ _ _ _ h
  have e1 := concL_length hx
  have e2 := concL_length hl
  have hsz : off + us.length ≤ cs.toArray.size := by simp; omega
  refine concL_of_get (by simp [layArr_size, e2, h1]) fun i y e => ?_
  rw [h3 i] at e
  have hg := layArr_get us cs.toArray off hsz i
  rw [Array.getElem?_toList, hg]
  by_cases hc : off ≤ i ∧ i < off + xs.length
  · rw [if_pos hc] at e
    rw [if_pos (by omega)]
    exact concL_get hx _ _ e
  · rw [if_neg hc] at e
    rw [if_neg (by omega)]
    simpa using concL_get hl _ _ e

theorem afill_fill {place : Nat → Option (Nat × Nat)} : ∀ {ps : List (Nat × AV)} {qs : List (Nat × Value)} {cells l : List AV} {cs : List Value},
    afill place cells ps = some l → PR m ps qs → concL m cells = some cs → ∃ us, Instr.fill place cs.toArray qs = some us ∧ concL m l = some us.toList := by
  intro ps
  induction ps with
  | nil =>
    intro qs cells l cs h hp hc
    cases qs with
    | nil => simp [afill] at h; subst h; exact ⟨_, rfl, by simpa using hc⟩
    | cons _ _ => exact hp.elim
  | cons p ps ih =>
    obtain ⟨i, x⟩ := p
    intro qs cells l cs h hp hc
    cases qs with
    | nil => exact hp.elim
    | cons q qs =>
      obtain ⟨j, v⟩ := q
      obtain ⟨rfl, hv, hp⟩ := hp
      simp only [afill] at h
      cases hpl : place i with
      | none => simp [hpl] at h
      | some y =>
        obtain ⟨off, size⟩ := y
        simp only [hpl] at h
        cases hle : lenEq x.cells size with
        | false => simp [hle] at h
        | true =>
          simp only [hle] at h
          cases hla : layAt off x.cells cells with
          | none => simp [hla] at h
          | some cells' =>
            simp only [hla] at h
            have hlen := (lenEq_iff _ _).1 hle
            have hcc := cells_conc hv
            have hcl := concL_length hcc
            simp at hcl
            have hnew := concL_lay hla hcc hc
            obtain ⟨h1, h2, _⟩ := layAt_get _ _ _ _ hla
            have hcsl := concL_length hc
            obtain ⟨us, hf, hu⟩ := ih h hp hnew
            refine ⟨us, ?_, hu⟩
            simp only [Instr.fill, hpl]
            rw [if_neg (by simp; omega)]
            rw [← hf]
            congr 1
            rw [← Array.foldl_toList, Array.toList_zipIdx]
            rw [foldl_lay]
            simp
end
end Go.AE
