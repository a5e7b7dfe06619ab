/-
  The abstract machine's equality and keys against the model's.
-/
import Derived.Test.YtglmnkoophfllaaGreatDoorAEOps
import GoSem.Dispatch
namespace Go.AE
open Go

section
variable {P : Program} {m : MP}

theorem kindEq_iff {k k' : IntKind} : kindEq k k' = true → k = k' := by
  cases k <;> cases k' <;> simp [kindEq]
theorem fkindEq_iff {k k' : FloatKind} : fkindEq k k' = true → k = k' := by
  cases k <;> cases k' <;> simp [fkindEq]
theorem intEq_iff (a b : Int) : intEq a b = (a == b) := by
  unfold intEq
  by_cases h : a = b <;> simp [h]
theorem bytesEq_iff : ∀ (a b : List UInt8), bytesEq a b = (a == b)
  | [], [] => rfl
  | [], _ :: _ => rfl
  | _ :: _, [] => rfl
  | a :: x, b :: y => by
    simp only [bytesEq]
    cases h : Nat.beq a.toNat b.toNat with
    | true =>
      have := Nat.eq_of_beq_eq_true h
      have e : a = b := UInt8.toNat_inj.1 this
      subst e
      simp [bytesEq_iff x y]
    | false =>
      have := Nat.ne_of_beq_eq_false h
      have e : a ≠ b := fun e => this (by rw [e])
      simp [e]

theorem byteArray_beq (a b : List UInt8) : ((⟨a.toArray⟩ : ByteArray) == ⟨b.toArray⟩) = (a == b) := by
  have : ((⟨a.toArray⟩ : ByteArray) == ⟨b.toArray⟩) = (a.toArray == b.toArray) := rfl
  rw [this]
  simp

/-- The model's equality, at any depth from d on. -/
def EqOk (P : Program) (m : MP) (d : Nat) : Prop :=
  ∀ (t : TypeId) (x y : AV) (r : Bool) (u v : Value) (D : Nat) (w : World), aeq P d t x y = some r → conc m x = some u → conc m y = some v → d ≤ D →
    (Op.equalIn D t u v).run P w = .ok r w

theorem aeqFields_run {d : Nat} (IH : EqOk P m d) : ∀ (fs : List Field) (xs ys : List AV) (us vs : List Value) (r : Bool) (D : Nat) (w : World),
    aeqFields (aeq P d) P fs xs ys = some r → concL m xs = some us → concL m ys = some vs → d ≤ D →
    (forIn fs ((none : Option Bool), ()) fun f _ =>
        if f.name ≠ "_" then do
          let a ← part f.type us.toArray f.offset
          let b ← part f.type vs.toArray f.offset
          let e ← Op.equalIn D f.type a b
          if (!e) = true then pure (ForInStep.done (some false, ())) else pure (ForInStep.yield (none, ()))
        else pure (ForInStep.yield (none, ())) : Sem (Option Bool × Unit)).run P w = .ok (if r then (none, ()) else (some false, ())) w := by
  intro fs
  induction fs with
  | nil =>
    intro xs ys us vs r D w h _ _ _
    simp [aeqFields] at h; subst h; simp
  | cons f fs ih =>
    intro xs ys us vs r D w h hx hy hd
    simp only [aeqFields] at h
    cases hn : (f.name == "_") with
    | true =>
      simp only [hn] at h
      have hn' : f.name = "_" := by simpa using hn
      have := ih xs ys us vs r D w h hx hy hd
      simp only [List.forIn_cons, hn', ne_eq, not_true_eq_false, if_false]
      simpa using this
    | false =>
      simp only [hn] at h
      have hn' : f.name ≠ "_" := by simpa using hn
      cases hpx : partOf P f.type xs f.offset with
      | none => simp [hpx] at h
      | some x => cases hpy : partOf P f.type ys f.offset with
        | none => simp [hpx, hpy] at h
        | some y =>
          simp only [hpx, hpy] at h
          cases he : aeq P d f.type x y with
          | none => simp [he] at h
          | some r1 =>
            simp only [he] at h
            obtain ⟨u1, h1, c1⟩ := partOf_run hpx hx w
            obtain ⟨v1, h2, c2⟩ := partOf_run hpy hy w
            have h3 := IH f.type x y r1 u1 v1 D w he c1 c2 hd
            cases r1 with
            | true =>
              simp only at h
              have := ih xs ys us vs r D w h hx hy hd
              simp only [List.forIn_cons, ne_eq, hn', not_false_eq_true, if_true, Sem.run_bind, h1, h2, h3, Result.andThen_ok, Bool.not_true, Bool.false_eq_true, if_false, Sem.run_pure]
              simpa using this
            | false =>
              simp at h; subst h
              simp only [List.forIn_cons, ne_eq, hn', not_false_eq_true, if_true, Sem.run_bind, h1, h2, h3, Result.andThen_ok, Bool.not_false, if_true, Sem.run_pure]
              simp

theorem ptr_none {x : AV} (h : conc m x = some (.pointer none)) : x = .ptr none := by
  cases x with
  | ptr a => cases a with
    | none => rfl
    | some p => obtain ⟨b, o⟩ := p; simp only [conc] at h; split at h <;> simp at h
  | _ => first
    | (simp only [conc] at h; simp [undef] at h; done)
    | (simp only [conc] at h; split at h <;> simp at h; done)
    | (unfold conc at h; split at h <;> simp_all <;> (repeat' split at h) <;> simp_all)

theorem equalIn_self {P : Program} {m : MP} {t e : TypeId} {n b o : Nat} {u : Value} (hu : P.underlying t = some (.pointer e)) (hs : sizeOfT P e = some n) (hx : conc m (.ptr (some (b, o))) = some u) (w : World) (D : Nat) :
    (Op.equalIn (D + 1) t u u).run P w = .ok true w := by
  simp only [conc] at hx
  split at hx <;> simp at hx
  subst hx
  by_cases hn : n = 0
  · simp [Op.equalIn, run_underlying' hu, run_sizeOf hs, hn]
  · simp [Op.equalIn, run_underlying' hu, run_sizeOf hs, hn, sameAddr]

theorem eqOk (P : Program) (m : MP) : ∀ d, EqOk P m d := by
  intro d
  induction d with
  | zero => intro t x y r u v D w h; simp [aeq] at h
  | succ d ih =>
    intro t x y r u v D w h hx hy hD
    obtain ⟨D, rfl⟩ : ∃ k, D = k + 1 := ⟨D - 1, by omega⟩
    have hD' : d ≤ D := by omega
    unfold aeq at h
    cases hu : P.underlying t with
    | none => simp [hu] at h
    | some ty =>
      simp only [hu] at h
      split at h
      case h_1 a b => cases h; cases hx; cases hy; simp [Op.equalIn, run_underlying' hu]
      case h_2 q k a k' b =>
        cases hk : kindEq k k' with
        | false => simp [hk] at h
        | true =>
          have := kindEq_iff hk; subst this
          simp [hk] at h; subst h; cases hx; cases hy
          simp [Op.equalIn, run_underlying' hu, intEq_iff]
      case h_3 a b =>
        cases h; cases hx; cases hy
        simp [Op.equalIn, run_underlying' hu, bytesEq_iff, byteArray_beq]
      case h_4 e => cases h; cases hx; cases hy; simp [Op.equalIn, run_underlying' hu]
      case h_5 e b =>
        cases h; cases hx
        obtain ⟨b, o⟩ := b
        simp only [conc] at hy
        split at hy <;> simp at hy
        subst hy
        simp [Op.equalIn, run_underlying' hu]
      case h_6 e b =>
        cases h; cases hy
        obtain ⟨b, o⟩ := b
        simp only [conc] at hx
        split at hx <;> simp at hx
        subst hx
        simp [Op.equalIn, run_underlying' hu]
      case h_7 => cases h; cases hx; cases hy; simp [Op.equalIn, run_underlying' hu]
      case h_8 =>
        cases h; cases hx
        simp only [conc] at hy
        split at hy <;> simp at hy
        subst hy
        simp [Op.equalIn, run_underlying' hu]
      case h_9 =>
        cases h; cases hy
        simp only [conc] at hx
        split at hx <;> simp at hx
        subst hx
        simp [Op.equalIn, run_underlying' hu]
      case h_10 fields xs ys =>
        cases hs : P.stoodInHeld t with
        | true => simp [hs] at h
        | false =>
          simp only [hs] at h
          obtain ⟨us, hus, rfl⟩ := conc_agg.1 hx
          obtain ⟨vs, hvs, rfl⟩ := conc_agg.1 hy
          have key := aeqFields_run ih fields.toList xs ys us vs r D w h hus hvs hD'
          simp only [Op.equalIn, Sem.run_bind, run_underlying' hu, Result.andThen_ok, run_program, hs, Bool.false_eq_true, if_false]
          rw [← Array.forIn_toList]
          simp only [ne_eq] at key ⊢
          rw [key]
          cases r <;> simp
      case h_11 => cases h; cases hx; cases hy; simp [Op.equalIn, run_underlying' hu]
      case h_12 a _ _ _ =>
        cases h; cases hx
        obtain ⟨b, o⟩ := a
        simp only [conc] at hy
        split at hy <;> simp at hy
        subst hy
        simp [Op.equalIn, run_underlying' hu]
      case h_13 a _ _ _ _ _ _ =>
        cases h; cases hy
        obtain ⟨b, o⟩ := a
        simp only [conc] at hx
        split at hx <;> simp at hx
        subst hx
        simp [Op.equalIn, run_underlying' hu]
      case h_14 => cases h; cases hx; cases hy; simp [Op.equalIn, run_underlying' hu]
      case h_15 =>
        cases h; cases hx
        simp only [conc] at hy
        split at hy <;> simp at hy
        subst hy
        simp [Op.equalIn, run_underlying' hu]
      case h_16 =>
        cases h; cases hy
        simp only [conc] at hx
        split at hx <;> simp at hx
        subst hx
        simp [Op.equalIn, run_underlying' hu]
      case h_17 => cases h; cases hx; cases hy; simp [Op.equalIn, run_underlying' hu]
      case h_18 =>
        cases h; cases hx
        simp only [conc] at hy
        split at hy <;> simp at hy
        subst hy
        simp [Op.equalIn, run_underlying' hu]
      case h_19 =>
        cases h; cases hy
        simp only [conc] at hx
        split at hx <;> simp at hx
        subst hx
        simp [Op.equalIn, run_underlying' hu]
      case h_20 e b o b' o' =>
        cases hbo : (Nat.beq b b' && Nat.beq o o') with
        | false => simp [hbo] at h
        | true =>
          simp only [hbo] at h
          cases hs : sizeOfT P e with
          | none => simp [hs] at h
          | some n =>
            simp [hs] at h; subst h
            simp only [Bool.and_eq_true] at hbo
            have e1 := Nat.eq_of_beq_eq_true hbo.1
            have e2 := Nat.eq_of_beq_eq_true hbo.2
            subst e1 e2
            have e3 : u = v := Option.some.inj (hx.symm.trans hy)
            subst e3
            exact equalIn_self hu hs hx w D
      case h_21 => simp at h

theorem equal_run {t : TypeId} {x y : AV} {r : Bool} {u v : Value} (h : aeq P eqDepth t x y = some r) (hx : conc m x = some u) (hy : conc m y = some v) (w : World) :
    (Op.equal t u v).run P w = .ok r w := eqOk P m eqDepth t x y r u v _ w h hx hy (by decide)

/-! ### Keys -/
def KeyOk (P : Program) (m : MP) (d : Nat) : Prop :=
  ∀ (t : TypeId) (x : AV) (u : Value) (D : Nat) (e : Bool) (w : World), akey P d t x = true → conc m x = some u → d ≤ D → (Instr.checkKey e D t u).run P w = .ok () w

theorem akeyFields_run {d : Nat} (IH : KeyOk P m d) : ∀ (fs : List Field) (xs : List AV) (us : List Value) (D : Nat) (e : Bool) (w : World),
    akeyFields (akey P d) P fs xs = true → concL m xs = some us → d ≤ D →
    (forIn fs PUnit.unit fun f _ =>
        if f.name ≠ "_" then do
          let a ← part f.type us.toArray f.offset
          Instr.checkKey e D f.type a
          pure (ForInStep.yield PUnit.unit)
        else pure (ForInStep.yield PUnit.unit) : Sem PUnit).run P w = .ok () w := by
  intro fs
  induction fs with
  | nil => intro xs us D e w _ _ _; simp
  | cons f fs ih =>
    intro xs us D e w h hx hd
    simp only [akeyFields] at h
    cases hn : (f.name == "_") with
    | true =>
      simp only [hn] at h
      have hn' : f.name = "_" := by simpa using hn
      have := ih xs us D e w h hx hd
      simp only [List.forIn_cons, hn', ne_eq, not_true_eq_false, if_false]
      simpa using this
    | false =>
      simp only [hn] at h
      have hn' : f.name ≠ "_" := by simpa using hn
      cases hpx : partOf P f.type xs f.offset with
      | none => simp [hpx] at h
      | some x =>
        simp only [hpx] at h
        cases hk : akey P d f.type x with
        | false => simp [hk] at h
        | true =>
          simp only [hk] at h
          obtain ⟨u1, h1, c1⟩ := partOf_run hpx hx w
          have h3 := IH f.type x u1 D e w hk c1 hd
          have := ih xs us D e w h hx hd
          simp only [List.forIn_cons, ne_eq, hn', not_false_eq_true, if_true, Sem.run_bind, h1, h3, Result.andThen_ok, Sem.run_pure]
          simpa using this

theorem keyOk (P : Program) (m : MP) : ∀ d, KeyOk P m d := by
  intro d
  induction d with
  | zero => intro t x u D e w h; simp [akey] at h
  | succ d ih =>
    intro t x u D e w h hx hD
    obtain ⟨D, rfl⟩ : ∃ k, D = k + 1 := ⟨D - 1, by omega⟩
    have hD' : d ≤ D := by omega
    unfold akey at h
    split at h
    case h_1 q k n hu => cases hx; simp [Instr.checkKey, run_underlying' hu]
    case h_2 s hu => cases hx; simp [Instr.checkKey, run_underlying' hu]
    case h_3 b hu => cases hx; simp [Instr.checkKey, run_underlying' hu]
    case h_4 fs cs hu =>
      obtain ⟨us, hus, rfl⟩ := conc_agg.1 hx
      have key := akeyFields_run ih fs.toList cs us D e w h hus hD'
      simp only [Instr.checkKey, Sem.run_bind, run_underlying' hu, Result.andThen_ok]
      rw [← Array.forIn_toList]
      rw [show (forIn fs.toList PUnit.unit fun f __s => _ : Sem PUnit) = _ from rfl]
      simp only [ne_eq] at key ⊢
      rw [key]
      simp
    case h_5 => simp at h

theorem akey_run {t : TypeId} {x : AV} {u : Value} (h : akey P eqDepth t x = true) (hx : conc m x = some u) (e : Bool) (w : World) : (Instr.checkKey e 10000 t u).run P w = .ok () w :=
  keyOk P m eqDepth t x u _ e w h hx (by decide)
end
end Go.AE
