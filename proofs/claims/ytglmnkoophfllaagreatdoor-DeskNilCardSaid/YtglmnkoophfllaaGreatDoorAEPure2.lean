/-
  The abstract machine's slicing, maps' look-ups, and all pure operations together, against the model's.
-/
import Derived.Test.YtglmnkoophfllaaGreatDoorAEPure
import Derived.Laws.Strings2
namespace Go.AE
open Go

section
variable {P : Program} {w0 : World} {m : MP} {H : AH} {w : World} {a : Act} {t : T AV}

/-- Related optional values. -/
def OV (m : MP) : Option AV → Option Value → Prop
  | none, none => True
  | some x, some v => conc m x = some v
  | _, _ => False

theorem aevo_conc (hG : GL P m) (ht : TR m t a.tmps) : ∀ {x : Option Operand} {v : Option AV}, aevo P t x = some v → OV m v (x.map a.eval) := by
  intro x v h
  cases x with
  | none => simp [aevo] at h; subst h; trivial
  | some x =>
    simp only [aevo] at h
    cases hx : aev P t x with
    | none => simp [hx] at h
    | some y => simp [hx] at h; subst h; exact aev_conc hG ht hx

/-- A bound that is laid, or its default. -/
def BD (P : Program) (x : Option Value) (dflt lim n : Nat) : Prop :=
  (x = none ∧ n = dflt) ∨ ∃ v, x = some v ∧ ∀ code w, (Instr.sliceBound v lim code).run P w = .ok n w

theorem bound_run {x : Option AV} {v : Option Value} {dflt lim n : Nat} (h : abound x dflt lim = some n) (hv : OV m x v) {lim' : Nat} (hl : lim ≤ lim') :
    BD P v dflt lim' n ∧ (n = dflt ∨ n ≤ lim) := by
  unfold abound at h
  split at h
  case h_1 =>
    cases v with
    | some _ => exact hv.elim
    | none => simp at h; subst h; exact ⟨.inl ⟨rfl, rfl⟩, .inl rfl⟩
  case h_2 k i =>
    cases v with
    | none => exact hv.elim
    | some v =>
    have := conc_int hv; subst this
    cases hb : (decide (0 ≤ i) && decide (i ≤ (lim : Int))) with
    | false => simp [hb] at h
    | true =>
      simp [hb] at h; subst h
      simp at hb
      refine ⟨.inr ⟨_, rfl, fun code w => ?_⟩, .inr (by omega)⟩
      have h1 : 0 ≤ i ∧ i ≤ (lim' : Int) := by omega
      simp [Instr.sliceBound, asIntOf, h1]
  case h_3 => simp at h

theorem sliceBounds_run {isSlice : Bool} {len cap l h : Nat} {lo hi : Option Value} (hh : BD P hi len cap h) (hl : BD P lo 0 h l) (w : World) :
    (Instr.sliceBounds isSlice len cap lo hi none).run P w = .ok (l, h, cap) w := by
  rcases hh with ⟨rfl, rfl⟩ | ⟨v, rfl, hv⟩ <;> rcases hl with ⟨rfl, rfl⟩ | ⟨v', rfl, hv'⟩
  all_goals simp [Instr.sliceBounds, *]
theorem sliceBounds_run3 {isSlice : Bool} {len cap l h mm : Nat} {lo : Option Value} {v v2 : Value} (hm : ∀ code w, (Instr.sliceBound v cap code).run P w = .ok mm w)
    (hh : ∀ code w, (Instr.sliceBound v2 mm code).run P w = .ok h w) (hl : BD P lo 0 h l) (w : World) :
    (Instr.sliceBounds isSlice len cap lo (some v2) (some v)).run P w = .ok (l, h, mm) w := by
  rcases hl with ⟨rfl, rfl⟩ | ⟨v', rfl, hv'⟩
  all_goals simp [Instr.sliceBounds, *]

theorem aslice_run {ty : TypeId} {x : AV} {lo hi mx : Option AV} {v : AV} {u : Value} {lo' hi' mx' : Option Value} (h : aslice P ty x lo hi mx = some v) (hx : conc m x = some u)
    (hlo : OV m lo lo') (hhi : OV m hi hi') (hmx : OV m mx mx') (w : World) : ∃ z, (Instr.sliceAt ty u lo' hi' mx').run P w = .ok z w ∧ conc m v = some z := by
  unfold aslice at h
  split at h
  case h_1 s hu =>
    have := conc_str hx; subst this
    cases mx with
    | some _ => simp at h
    | none =>
    cases mx' with
    | some _ => exact hmx.elim
    | none =>
    simp only at h
    have hsz : (⟨s.toArray⟩ : ByteArray).size = s.length := by simp [ByteArray.size]
    cases hb : abound hi s.length s.length with
    | none => simp [hb] at h
    | some hh =>
      simp only [hb] at h
      cases hc : abound lo 0 hh with
      | none => simp [hc] at h
      | some l =>
        simp [hc] at h; subst h
        refine ⟨_, ?_, rfl⟩
        have e3 := sliceBounds_run (isSlice := false) (bound_run (P := P) hb hhi (Nat.le_refl _)).1 (bound_run (P := P) hc hlo (Nat.le_refl _)).1 w
        simp only [Instr.sliceAt, Instr.slice, Sem.run_bind, run_underlying' hu, Result.andThen_ok, hsz, Option.isSome_none, Bool.false_eq_true, if_false]
        rw [e3]
        simp only [Result.andThen_ok, Sem.run_pure]
        rw [ByteArray.extract_mk, List.drop_take]
  case h_2 e base len cap slack hu =>
    cases hs : sizeOfT P e with
    | none => simp [hs] at h
    | some size =>
      simp only [hs] at h
      obtain ⟨b, capc, rfl⟩ := conc_sl_any hx
      have hcap : cap ≤ capc ∧ (slack = false → capc = cap) ∧ (base = none → capc = cap) := by
        cases base with
        | none => simp [conc] at hx; simp [hx.2]
        | some p =>
          obtain ⟨bb, o⟩ := p
          obtain ⟨y, hy, e⟩ := conc_sl hx
          simp at e
          refine ⟨by omega, fun hf => ?_, fun hf => by cases hf⟩
          subst hf; simp at e; omega
      cases mx with
      | none =>
        cases mx' with
        | some _ => exact hmx.elim
        | none =>
        cases hb : abound hi len cap with
        | none => simp [hb] at h
        | some hh =>
          simp only [hb] at h
          have hB : BD P hi' len capc hh := (bound_run (P := P) hb hhi hcap.1).1
          cases hc : abound lo 0 hh with
          | none => simp [hc] at h
          | some l =>
            simp only [hc] at h
            cases hble : Nat.ble hh cap with
            | false => simp [hble] at h
            | true =>
            simp only [hble] at h
            have hhc := Nat.le_of_ble_eq_true hble
            have hle : l ≤ hh := by rcases (bound_run (P := P) hc hlo (Nat.le_refl _)).2 with h0 | h0 <;> omega
            have e3 := sliceBounds_run (isSlice := true) hB (bound_run (P := P) hc hlo (Nat.le_refl _)).1 w
            have hrun : ∀ z, z = Value.slice (if capc = l then b else b.map (·.add (l * size))) (hh - l) (capc - l) → (Instr.sliceAt ty (.slice b len capc) lo' hi' none).run P w = .ok z w := by
              intro z hz
              subst hz
              simp only [Instr.sliceAt, Instr.slice, Sem.run_bind, run_underlying' hu, Result.andThen_ok, e3, run_sizeOf hs, Sem.run_pure]
            cases hbl : (Nat.beq cap l && slack) with
            | true =>
              simp only [hbl] at h
              simp at hbl
              obtain ⟨hcl, hsl⟩ := hbl
              subst hcl; subst hsl
              cases base with
              | none => simp at h
              | some p =>
                obtain ⟨bb, o⟩ := p
                simp at h; subst h
                obtain ⟨y, hy, e⟩ := conc_sl hx
                simp at e
                obtain ⟨rfl, rfl⟩ := e
                refine ⟨_, hrun _ rfl, ?_⟩
                have hh1 : hh - cap = 0 := by omega
                simp only [conc, hy, hh1]
                by_cases hd : y.δ = 0
                · simp [hd]
                · simp [hd, addr_add]; omega
            | false =>
              simp only [hbl] at h
              simp at h; subst h
              refine ⟨_, hrun _ rfl, ?_⟩
              cases base with
              | none =>
                have := hcap.2.2 rfl; subst this
                simp [conc] at hx
                obtain ⟨rfl, _⟩ := hx
                cases hq : Nat.beq capc l <;> simp [conc]
              | some p =>
                obtain ⟨bb, o⟩ := p
                obtain ⟨y, hy, e⟩ := conc_sl hx
                simp at e
                obtain ⟨rfl, rfl⟩ := e
                cases hq : Nat.beq cap l with
                | true =>
                  have hq' := Nat.eq_of_beq_eq_true hq
                  subst hq'
                  have hsf : slack = false := by simpa [hq] using hbl
                  subst hsf
                  simp [conc, hy]
                | false =>
                  have hq' := Nat.ne_of_beq_eq_false hq
                  have hne : ¬ (cap + bif slack then y.δ else 0) = l := by omega
                  simp [conc, hy, hne, addr_add]
                  omega
      | some mxv =>
        cases mx' with
        | none => exact hmx.elim
        | some mxc =>
        cases hbm : abound (some mxv) cap cap with
        | none => simp [hbm] at h
        | some mm =>
          simp only [hbm] at h
          cases hi with
          | none => simp at h
          | some hiv =>
            cases hi' with
            | none => exact hhi.elim
            | some hic =>
            cases hb : abound (some hiv) len mm with
            | none => simp [hb] at h
            | some hh =>
              simp only [hb] at h
              cases hc : abound lo 0 hh with
              | none => simp [hc] at h
              | some l =>
                simp only [hc] at h
                simp at h; subst h
                have hM := (bound_run (P := P) (v := some mxc) hbm hmx hcap.1).1
                have hH := (bound_run (P := P) (v := some hic) hb hhi (Nat.le_refl _)).1
                rcases hM with ⟨hM, _⟩ | ⟨_, hM, hM'⟩
                · cases hM
                rcases hH with ⟨hH, _⟩ | ⟨_, hH, hH'⟩
                · cases hH
                cases hM; cases hH
                have e3 := sliceBounds_run3 (isSlice := true) (len := len) hM' hH' (bound_run (P := P) hc hlo (Nat.le_refl _)).1 w
                refine ⟨Value.slice (if mm = l then b else b.map (·.add (l * size))) (hh - l) (mm - l), ?_, ?_⟩
                · simp only [Instr.sliceAt, Instr.slice, Sem.run_bind, run_underlying' hu, Result.andThen_ok, e3, run_sizeOf hs, Sem.run_pure]
                · cases base with
                  | none =>
                    simp [conc] at hx
                    obtain ⟨rfl, _⟩ := hx
                    cases hq : Nat.beq mm l <;> simp [conc]
                  | some p =>
                    obtain ⟨bb, o⟩ := p
                    obtain ⟨y, hy, e⟩ := conc_sl hx
                    simp at e
                    obtain ⟨rfl, rfl⟩ := e
                    cases hq : Nat.beq mm l with
                    | true =>
                      have hq' := Nat.eq_of_beq_eq_true hq
                      subst hq'
                      simp [conc, hy]
                    | false =>
                      have hq' := Nat.ne_of_beq_eq_false hq
                      simp [conc, hy, hq', addr_add, Nat.add_assoc]
  case h_3 n e b o hu =>
    cases hs : sizeOfT P e with
    | none => simp [hs] at h
    | some size =>
      simp only [hs] at h
      cases mx with
      | some _ => simp at h
      | none =>
      cases mx' with
      | some _ => exact hmx.elim
      | none =>
      simp only at h
      obtain ⟨y, hy, rfl⟩ := conc_ptr hx
      cases hb : abound hi n n with
      | none => simp [hb] at h
      | some hh =>
        simp only [hb] at h
        cases hc : abound lo 0 hh with
        | none => simp [hc] at h
        | some l =>
          simp only [hc] at h
          simp at h; subst h
          have e3 := sliceBounds_run (isSlice := false) (bound_run (P := P) hb hhi (Nat.le_refl _)).1 (bound_run (P := P) hc hlo (Nat.le_refl _)).1 w
          refine ⟨Value.slice (some (if n = l then ⟨y.c, y.off + o, none⟩ else (⟨y.c, y.off + o, none⟩ : Addr).add (l * size))) (hh - l) (n - l), ?_, ?_⟩
          · simp only [Instr.sliceAt, Sem.run_bind, run_underlying' hu, Result.andThen_ok, Instr.sureAddr, Sem.run_pure, e3, run_sizeOf hs]
          · cases hq : Nat.beq n l with
            | true =>
              have hq' := Nat.eq_of_beq_eq_true hq
              subst hq'
              simp [conc, hy]
            | false =>
              have hq' := Nat.ne_of_beq_eq_false hq
              simp [conc, hy, hq', addr_add, Nat.add_assoc]
  case h_4 => simp at h

/-! ### Maps -/
def ER (m : MP) : List (AV × AV) → List MapEntry → Prop
  | [], [] => True
  | (k, v) :: l, e :: r => conc m k = some e.key ∧ conc m v = some e.val ∧ ER m l r
  | _, _ => False

theorem ER_of : ∀ {es : List (AV × AV)} {ces : List MapEntry}, ces.length = es.length → (∀ (i : Nat) (k v : AV), es[i]? = some (k, v) → ∃ e, ces[i]? = some e ∧ conc m k = some e.key ∧ conc m v = some e.val) → ER m es ces
  | [], [], _, _ => trivial
  | [], _ :: _, h, _ => by simp at h
  | _ :: _, [], h, _ => by simp at h
  | (k, v) :: l, e :: r, h, hh => by
    obtain ⟨e', he, h1, h2⟩ := hh 0 k v (by simp)
    simp at he; subst he
    exact ⟨h1, h2, ER_of (by simpa using h) fun i k v hi => by simpa using hh (i + 1) k v (by simpa using hi)⟩
theorem ER_get : ∀ {es : List (AV × AV)} {ces : List MapEntry}, ER m es ces → ces.length = es.length ∧ ∀ (i : Nat) (k v : AV), es[i]? = some (k, v) → ∃ e, ces[i]? = some e ∧ conc m k = some e.key ∧ conc m v = some e.val
  | [], [], _ => ⟨rfl, fun i k v h => by simp at h⟩
  | [], _ :: _, h => h.elim
  | _ :: _, [], h => h.elim
  | (k, v) :: l, e :: r, ⟨h1, h2, h3⟩ => by
    obtain ⟨h4, h5⟩ := ER_get h3
    refine ⟨by simp [h4], fun i k' v' hi => ?_⟩
    cases i with
    | zero => simp at hi; obtain ⟨rfl, rfl⟩ := hi; exact ⟨e, by simp, h1, h2⟩
    | succ i => simpa using h5 i k' v' (by simpa using hi)

/-- What was found. -/
def FR (m : MP) : Option (Nat × AV) → Option (Nat × Value) → Prop
  | none, none => True
  | some (i, x), some (j, v) => i = j ∧ conc m x = some v
  | _, _ => False

theorem findAsking_run {kt : TypeId} {k : AV} {kc : Value} (hk : conc m k = some kc) (w : World) : ∀ {es : List (AV × AV)} {ces : List MapEntry} {i : Nat} {r : Option (Nat × AV)},
    ER m es ces → afind (aeq P eqDepth kt) k es i = some r → ∃ z, (Instr.findAsking kt kc ces i).run P w = .ok z w ∧ FR m r z
  | [], [], i, r, _, h => by simp [afind] at h; subst h; exact ⟨none, by simp [Instr.findAsking], trivial⟩
  | [], _ :: _, _, _, h, _ => h.elim
  | _ :: _, [], _, _, h, _ => h.elim
  | (k', v) :: l, e :: rr, i, r, ⟨h1, h2, h3⟩, h => by
    simp only [afind] at h
    cases he : aeq P eqDepth kt k k' with
    | none => simp [he] at h
    | some b =>
      have hr := equal_run he hk h1 w
      cases b with
      | true => simp [he] at h; subst h; exact ⟨some (i, e.val), by simp [Instr.findAsking, hr], rfl, h2⟩
      | false =>
        simp [he] at h
        obtain ⟨z, hz, hf⟩ := findAsking_run hk w h3 h
        exact ⟨z, by simp [Instr.findAsking, hr, hz], hf⟩

theorem equal_now {kt : TypeId} {d : TypeDesc} (hd : P.underlying kt = some d) {x y : Value} {b : Bool} (hs : Instr.sameNow d x y = some b) (w : World) (D : Nat) : (Op.equalIn (D + 1) kt x y).run P w = .ok b w := by
  unfold Instr.sameNow at hs
  split at hs
  · split at hs
    · rename_i hk
      subst hk
      simp at hs; subst hs
      simp only [Op.equalIn, Sem.run_bind, run_underlying' hd, Result.andThen_ok]
      simp
    · simp at hs
  · simp at hs; subst hs
    simp only [Op.equalIn, Sem.run_bind, run_underlying' hd, Result.andThen_ok]
    simp
  · simp at hs; subst hs
    simp only [Op.equalIn, Sem.run_bind, run_underlying' hd, Result.andThen_ok]
    simp
  · simp at hs

theorem findNow_run {kt : TypeId} {d : TypeDesc} (hd : P.underlying kt = some d) {k : AV} {kc : Value} (hk : conc m k = some kc) : ∀ {es : List (AV × AV)} {ces : List MapEntry} {i : Nat} {r : Option (Nat × AV)} {z : Option (Nat × Value)},
    ER m es ces → afind (aeq P eqDepth kt) k es i = some r → Instr.findNow d kc ces i = some z → FR m r z
  | [], [], i, r, z, _, h, hz => by simp [afind] at h; subst h; simp [Instr.findNow] at hz; subst hz; trivial
  | [], _ :: _, _, _, _, h, _, _ => h.elim
  | _ :: _, [], _, _, _, h, _, _ => h.elim
  | (k', v) :: l, e :: rr, i, r, z, ⟨h1, h2, h3⟩, h, hz => by
    simp only [afind] at h
    simp only [Instr.findNow] at hz
    cases he : aeq P eqDepth kt k k' with
    | none => simp [he] at h
    | some b =>
      cases hs : Instr.sameNow d kc e.key with
      | none => simp [hs] at hz
      | some b' =>
        have hbb : b' = b := by
          have hr := equal_run he hk h1 (default : World)
          have hr' := equal_now hd hs (default : World) 9999
          have := hr'.symm.trans hr
          simpa using this
        subst hbb
        cases b' with
        | true => simp [he] at h; subst h; simp [hs] at hz; subst hz; exact ⟨rfl, h2⟩
        | false => simp [he] at h; simp [hs] at hz; exact findNow_run hd hk h3 h hz

theorem findKey_run {kt : TypeId} {d : TypeDesc} (hd : P.underlying kt = some d) {k : AV} {kc : Value} (hk : conc m k = some kc) (w : World) {es : List (AV × AV)} {ces : List MapEntry} {r : Option (Nat × AV)}
    (he : ER m es ces) (h : afind (aeq P eqDepth kt) k es 0 = some r) : ∃ z, (Instr.findKey kt kc ces).run P w = .ok z w ∧ FR m r z := by
  simp only [Instr.findKey, Sem.run_bind, run_underlying' hd, Result.andThen_ok]
  cases hz : Instr.findNow d kc ces 0 with
  | some z => exact ⟨z, rfl, findNow_run hd hk he h hz⟩
  | none => exact findAsking_run hk w he h

theorem akey_underlying {kt : TypeId} {k : AV} (h : akey P eqDepth kt k = true) : ∃ d, P.underlying kt = some d := by
  cases hu : P.underlying kt with
  | some d => exact ⟨d, rfl⟩
  | none => unfold eqDepth akey at h; simp [hu] at h

theorem alookup_run (hr : HR P w0 m H w) {ty : TypeId} {x k v : AV} {ok : Bool} {xc kc : Value} (h : alookup P H ty x k ok = some v) (hx : conc m x = some xc) (hk : conc m k = some kc) :
    ∃ z, (Instr.lookup ty xc kc ok).run P w = .ok z w ∧ conc m v = some z := by
  unfold alookup at h
  split at h
  case h_2 => simp at h
  case h_1 key elem hu =>
    cases hak : akey P eqDepth key k with
    | false => simp [hak] at h
    | true =>
      simp only [hak] at h
      obtain ⟨kd, hkd⟩ := akey_underlying hak
      cases hmo : mapOf H x with
      | none => simp [hmo] at h
      | some es =>
      simp only [hmo] at h
      have rest : ∀ ces : Array MapEntry, ER m es ces.toList → ∃ z, (do
            Instr.checkKey ces.isEmpty 10000 key kc
            match ← Instr.findKey key kc ces.toList with
              | some (_, v) => pure (if ok = true then .tuple #[v, .bool true] else v)
              | none => do
                let d ← zeroValue elem
                pure (if ok = true then .tuple #[d, .bool false] else d) : Sem Value).run P w = .ok z w ∧ conc m v = some z := by
        intro ces her
        cases hf : afind (aeq P eqDepth key) k es 0 with
        | none => simp [hf] at h
        | some r =>
          obtain ⟨zz, h1, h2⟩ := findKey_run hkd hk w her hf
          have hck := akey_run hak hk ces.isEmpty w
          cases r with
          | some ix =>
            obtain ⟨i, x'⟩ := ix
            cases zz with
            | none => exact h2.elim
            | some jv =>
              obtain ⟨j, v'⟩ := jv
              obtain ⟨_, hv'⟩ := h2
              simp [hf] at h; subst h
              refine ⟨if ok = true then .tuple #[v', .bool true] else v', by simp [hck, h1], ?_⟩
              cases ok <;> simp [conc, concL, hv']
          | none =>
            cases zz with
            | some _ => exact h2.elim
            | none =>
              simp [hf] at h
              cases hz : zeroOf P elem with
              | none => simp [hz] at h
              | some z =>
                simp [hz] at h; subst h
                obtain ⟨u, hu1, hu2, _⟩ := zeroOf_run m hz w
                refine ⟨if ok = true then .tuple #[u, .bool false] else u, by simp [hck, h1, hu1], ?_⟩
                cases ok <;> simp [conc, concL, hu2]
      unfold mapOf at hmo
      split at hmo
      case h_1 =>
        cases hx
        cases hmo
        obtain ⟨z, hz, hc⟩ := rest #[] trivial
        refine ⟨z, ?_, hc⟩
        rw [← hz]
        simp only [Instr.lookup, Sem.run_bind, run_underlying' hu, Result.andThen_ok, Sem.run_pure]
        rfl
      case h_2 b =>
        obtain ⟨y, hy, rfl⟩ := conc_map hx
        split at hmo
        case h_2 => simp at hmo
        case h_1 es' ho =>
          cases hmo
          obtain ⟨ces, clock, h1, h2, h3⟩ := hr.objs b _ y ho hy
          obtain ⟨z, hz, hc⟩ := rest ces (ER_of (by simpa using h2) (fun i k v e => by simpa using h3 i k v e))
          refine ⟨z, ?_, hc⟩
          rw [← hz]
          simp only [Instr.lookup, Sem.run_bind, run_underlying' hu, Result.andThen_ok, Sem.run_pure, getObj, Sem.run, h1]
          rfl
      case h_3 => simp at hmo
end
end Go.AE
