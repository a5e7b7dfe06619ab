/-
  The abstract machine's other active operations against the model's.
-/
import Derived.Test.YtglmnkoophfllaaGreatDoorAEAct
namespace Go.AE
open Go

section
variable {P : Program} {w0 : World} {m : MP} {H : AH} {w : World} {a : Act} {t : T AV}

/-- What an operation that comes to a value, and may turn memory, leaves. -/
def VOk (P : Program) (w0 : World) (m : MP) (H : AH) (v : AV) (H' : AH) (r : Result Value) : Prop :=
  ∃ m' w' u, r = .ok u w' ∧ conc m' v = some u ∧ HR P w0 m' H' w' ∧ Grow m m' H H'

theorem aappend_sound (hr : HR P w0 m H w) {ts : List TypeId} {tt : TypeId} {args : List AV} {us : List Value} {v : AV} {H' : AH} (h : aappend P H ts args = some (.val v H')) (hx : concL m args = some us) :
    VOk P w0 m H v H' ((Builtin.append_ ts.toArray tt us.toArray).run P w) := by
  unfold aappend at h
  split at h
  case h_2 => simp at h
  case h_1 sT xT base len cap slack x =>
    obtain ⟨s, us1, rfl, hs, hx⟩ := concL_cons.1 hx
    obtain ⟨xc, us2, rfl, hxc, hx⟩ := concL_cons.1 hx
    simp [concL_nil] at hx; subst hx
    split at h
    case h_1 e e' hu hu' => exact aappendAt_sound hr hu (.inl ⟨e', hu'⟩) h hs hxc
    case h_2 e hu hu' => exact aappendAt_sound hr hu (.inr hu') h hs hxc
    case h_3 => simp at h

theorem acopy_sound (hr : HR P w0 m H w) {ts : List TypeId} {tt : TypeId} {args : List AV} {us : List Value} {v : AV} {H' : AH} (h : acopy P H ts args = some (.val v H')) (hx : concL m args = some us) :
    VOk P w0 m H v H' ((Builtin.copy_ ts.toArray tt us.toArray).run P w) := by
  unfold acopy at h
  split at h
  case h_2 => simp at h
  case h_1 dT rest base dLen c1 c2 src =>
    obtain ⟨s, us1, rfl, hs, hx⟩ := concL_cons.1 hx
    obtain ⟨xc, us2, rfl, hxc, hx⟩ := concL_cons.1 hx
    simp [concL_nil] at hx; subst hx
    split at h
    case h_2 => simp at h
    case h_1 e hu =>
    cases hn : alenOf src with
    | none => simp [hn] at h
    | some sl =>
    simp only [hn] at h
    cases hc : acells P H e (Nat.min sl dLen) src with
    | none => simp [hc] at h
    | some xs =>
    simp only [hc] at h
    have hsize : ∃ size, sizeOfT P e = some size := by
      cases hs : sizeOfT P e with
      | some size => exact ⟨size, rfl⟩
      | none => unfold acells at hc; simp [hs] at hc
    obtain ⟨size, hsize⟩ := hsize
    obtain ⟨new, hnew, hcn, _⟩ := acells_run hr hsize hc hxc
    have hlenr := alenOf_run (P := P) hn hxc w
    cases base with
    | none =>
      simp at h
      obtain ⟨rfl, rfl⟩ := h
      simp [conc] at hs; subst hs
      refine ⟨m, w, goInt (Nat.min sl dLen : Nat), ?_, by simp [conc, goInt], hr, Grow.refl m H⟩
      simp [Builtin.copy_, run_underlying' hu, hlenr, run_sizeOf hsize, hnew]
    | some p =>
      obtain ⟨b, off⟩ := p
      simp only at h
      cases hst : storeN H b off xs with
      | none => simp [hst] at h
      | some H1 =>
        simp [hst] at h
        obtain ⟨rfl, rfl⟩ := h
        obtain ⟨y, hy, rfl⟩ := conc_sl hs
        obtain ⟨w', h1, h2, h3⟩ := run_storeN hr hst hy hcn
        refine ⟨m, w', goInt (Nat.min sl dLen : Nat), ?_, by simp [conc, goInt], h2, storeN_grow hst hy h3⟩
        simp [Builtin.copy_, run_underlying' hu, hlenr, run_sizeOf hsize, hnew, h1]

theorem concL_zero {zc : List AV} {zu : Array Value} {size : Nat} (hz : concL m zc = some zu.toList) (hs : zc.length = size) (n : Nat) : concL m (repeatL zc n) = some (Builtin.zeroCells zu n).toList := by
  have h := concL_repeat hz hs n
  have hsz : zu.size = size := by have := concL_length hz; simp at this; omega
  rw [h]
  congr 1
  simp [Builtin.zeroCells, hsz]

theorem aclear_sound (hr : HR P w0 m H w) {ts : List TypeId} {tt : TypeId} {args : List AV} {us : List Value} {v : AV} {H' : AH} (h : aclear P H ts args = some (.val v H')) (hx : concL m args = some us) :
    VOk P w0 m H v H' ((Builtin.clear_ ts.toArray tt us.toArray).run P w) := by
  unfold aclear at h
  split at h
  case h_2 => simp at h
  case h_1 ty rest base n c1 c2 =>
    obtain ⟨s, us1, rfl, hs, hx⟩ := concL_cons.1 hx
    simp [concL_nil] at hx; subst hx
    split at h
    case h_2 => simp at h
    case h_1 e hu =>
    split at h
    case h_1 =>
      simp at h; obtain ⟨rfl, rfl⟩ := h
      simp [conc] at hs; subst hs
      exact ⟨m, w, .tuple #[], by simp [Builtin.clear_, run_underlying' hu], by simp [conc, concL], hr, Grow.refl m H⟩
    case h_2 p =>
      simp at h; obtain ⟨rfl, rfl⟩ := h
      obtain ⟨b, d, rfl⟩ := conc_sl_any hs
      exact ⟨m, w, .tuple #[], by cases b <;> simp [Builtin.clear_, run_underlying' hu], by simp [conc, concL], hr, Grow.refl m H⟩
    case h_3 b off n =>
      split at h
      case h_2 => simp at h
      case h_1 z size hz hsize =>
        cases hb : lenEq z.cells (size + 1) with
        | false => simp [hb] at h
        | true =>
          simp only [hb] at h
          have hzl := (lenEq_iff _ _).1 hb
          cases hst : storeN H b off (repeatL z.cells (n + 1)) with
          | none => simp [hst] at h
          | some H1 =>
            simp [hst] at h
            obtain ⟨rfl, rfl⟩ := h
            obtain ⟨y, hy, rfl⟩ := conc_sl hs
            obtain ⟨zu, hzu, hzc, _⟩ := zeroOf_run m hz w
            obtain ⟨w', h1, h2, h3⟩ := run_storeN hr hst hy (concL_zero (cells_conc hzc) hzl (n + 1))
            refine ⟨m, w', .tuple #[], ?_, by simp [conc, concL], h2, storeN_grow hst hy h3⟩
            simp [Builtin.clear_, run_underlying' hu, hzu, h1]

/-! ### Maps that turn -/
theorem run_getMap {r : Nat} {ces : Array MapEntry} {clock : Nat} (h : w.heap[r]? = some (.map ces clock)) : (getObj r).run P w = .ok (.map ces clock) w := by
  simp [getObj, Sem.run, h]
theorem run_setMap {r : Nat} {ces : Array MapEntry} {clock : Nat} (h : w.heap[r]? = some (.map ces clock)) (o : Obj) : (setObj r o).run P w = .ok () { w with heap := w.heap.setIfInBounds r o } := by
  simp [setObj, Sem.run, h]

theorem ER_set {es : List (AV × AV)} {v : AV} {u : Value} {kc : Value} (hv : conc m v = some u) : ∀ {ces : List MapEntry} {i : Nat} {k' : AV}, ER m es ces → keyAt es i = some k' → conc m k' = some kc →
    ER m (setNth v i es) (ces.modify i fun e => { e with key := kc, val := u }) := by
  induction es with
  | nil => intro ces i k' h hk; simp [keyAt] at hk
  | cons p l ih =>
    obtain ⟨k, v'⟩ := p
    intro ces i k' h hk hc
    cases ces with
    | nil => exact h.elim
    | cons e r =>
      obtain ⟨h1, h2, h3⟩ := h
      cases i with
      | zero => simp [keyAt] at hk; subst hk; exact ⟨hc, hv, h3⟩
      | succ i => simp [keyAt] at hk; exact ⟨h1, h2, ih h3 hk hc⟩
theorem ER_push {es : List (AV × AV)} {k v : AV} {e : MapEntry} (hk : conc m k = some e.key) (hv : conc m v = some e.val) : ∀ {ces : List MapEntry}, ER m es ces → ER m (es ++ [(k, v)]) (ces ++ [e]) := by
  induction es with
  | nil => intro ces h; cases ces with
    | nil => exact ⟨hk, hv, trivial⟩
    | cons _ _ => exact h.elim
  | cons p l ih =>
    obtain ⟨k', v'⟩ := p
    intro ces h
    cases ces with
    | nil => exact h.elim
    | cons e' r => exact ⟨h.1, h.2.1, ih h.2.2⟩
theorem ER_drop {es : List (AV × AV)} : ∀ {ces : List MapEntry} (i : Nat), ER m es ces → ER m (dropNth i es) (ces.eraseIdx i) := by
  induction es with
  | nil => intro ces i h; cases ces with
    | nil => cases i <;> exact trivial
    | cons _ _ => exact h.elim
  | cons p l ih =>
    obtain ⟨k', v'⟩ := p
    intro ces i h
    cases ces with
    | nil => exact h.elim
    | cons e' r =>
      cases i with
      | zero => exact h.2.2
      | succ i => exact ⟨h.1, h.2.1, ih i h.2.2⟩

theorem OR_map {es : List (AV × AV)} {ces : Array MapEntry} {clock : Nat} {x : MB} {w : World} (h : w.heap[x.c]? = some (.map ces clock)) (he : ER m es ces.toList) : OR P m (.map es) x w := by
  obtain ⟨h1, h2⟩ := ER_get he
  exact ⟨ces, clock, h, by simpa using h1, fun i k v e => by simpa using h2 i k v e⟩

theorem put_grow {b : Nat} {o : AObj} {x : MB} (hm : m b = some x) : Grow m m H (H.put b o) :=
  ⟨Ext.refl m, Nat.le_refl _, fun k hk _ => ⟨hk, by rw [AH.get_put, if_neg (by intro e; subst e; rw [hm] at hk; cases hk)]⟩⟩

theorem sameBits_flat1 {x : AV} {u : Value} (h : flat1 x = true) (hc : conc m x = some u) (n : Nat) : Instr.sameBits n u u = true := by
  cases x <;> simp [flat1] at h
  · cases hc; cases n <;> simp [Instr.sameBits]
  · cases hc; cases n <;> simp [Instr.sameBits]
  · cases hc
    cases n <;> simp only [Instr.sameBits] <;> (rw [byteArray_beq]; simp)
theorem sameBits_flat {x : AV} {u : Value} (h : flatAV x = true) (hc : conc m x = some u) (n : Nat) : Instr.sameBits (n + 1) u u = true := by
  cases x with
  | agg l =>
    obtain ⟨us, hus, rfl⟩ := conc_agg.1 hc
    simp only [flatAV] at h
    simp only [Instr.sameBits, beq_self_eq_true, Bool.true_and]
    have key : ∀ (l : List AV) (us : List Value), flatL l = true → concL m l = some us → ((us.zip us).all fun (x, y) => Instr.sameBits n x y) = true := by
      intro l
      induction l with
      | nil => intro us _ h; simp [concL_nil] at h; subst h; rfl
      | cons y l ih =>
        intro us hf h
        obtain ⟨v, vs, rfl, h1, h2⟩ := concL_cons.1 h
        simp only [flatL] at hf
        cases hy : flat1 y with
        | false => simp [hy] at hf
        | true =>
          simp [hy] at hf
          simp only [List.zip_cons_cons, List.all_cons, Bool.and_eq_true]
          exact ⟨sameBits_flat1 hy h1 n, ih vs hf h2⟩
    simpa using key l us h hus
  | _ => simp only [flatAV] at h; exact sameBits_flat1 h hc _

theorem adelete_sound (hr : HR P w0 m H w) {ts : List TypeId} {tt : TypeId} {args : List AV} {us : List Value} {v : AV} {H' : AH} (h : adelete P H ts args = some (.val v H')) (hx : concL m args = some us) :
    VOk P w0 m H v H' ((Builtin.delete_ ts.toArray tt us.toArray).run P w) := by
  unfold adelete at h
  split at h
  case h_2 => simp at h
  case h_1 mT rest r k =>
    obtain ⟨s, us1, rfl, hs, hx⟩ := concL_cons.1 hx
    obtain ⟨kc, us2, rfl, hk, hx⟩ := concL_cons.1 hx
    simp [concL_nil] at hx; subst hx
    split at h
    case h_2 => simp at h
    case h_1 key elem hu =>
    split at h
    case h_2 => simp at h
    case h_1 es hak hg =>
    obtain ⟨kd, hkd⟩ := akey_underlying hak
    obtain ⟨y, hy, rfl⟩ := conc_map hs
    obtain ⟨ces, clock, h1, h2, h3⟩ := hr.objs r _ y hg hy
    have her : ER m es ces.toList := ER_of (by simpa using h2) (fun i k v e => by simpa using h3 i k v e)
    cases hf : afind (aeq P eqDepth key) k es 0 with
    | none => simp [hf] at h
    | some fr =>
      obtain ⟨z, hz, hzr⟩ := findKey_run hkd hk w her hf
      have hck := akey_run hak hk ces.isEmpty w
      have hyc := hr.bound _ _ hy
      have hrun : ∀ ces' : Array MapEntry, (match z with | some (i, _) => ces.eraseIdxIfInBounds i | none => ces) = ces' →
          (Builtin.delete_ (mT :: rest).toArray tt [Value.map (some y.c), kc].toArray).run P w = .ok (.tuple #[]) { w with heap := w.heap.setIfInBounds y.c (.map ces' clock) } := by
        intro ces' e
        subst e
        cases z with
        | none => simp [Builtin.delete_, run_underlying' hu, run_getMap h1, hck, hz, run_setMap h1]
        | some iv => obtain ⟨i, v'⟩ := iv; simp [Builtin.delete_, run_underlying' hu, run_getMap h1, hck, hz, run_setMap h1]
      cases fr with
      | none =>
        cases z with
        | some _ => exact hzr.elim
        | none =>
        simp [hf] at h
        obtain ⟨rfl, rfl⟩ := h
        exact ⟨m, _, _, hrun _ rfl, by simp [conc, concL], hr.turn hg rfl hy (OR_map (clock := clock) (Array.getElem?_setIfInBounds_self_of_lt hyc) her), put_grow hy⟩
      | some ix =>
        obtain ⟨i, x⟩ := ix
        cases z with
        | none => exact hzr.elim
        | some jv =>
        obtain ⟨j, v'⟩ := jv
        obtain ⟨rfl, _⟩ := hzr
        simp [hf] at h
        obtain ⟨rfl, rfl⟩ := h
        refine ⟨m, _, _, hrun _ rfl, by simp [conc, concL], hr.turn hg rfl hy (OR_map (clock := clock) (Array.getElem?_setIfInBounds_self_of_lt hyc) ?_), put_grow hy⟩
        have := ER_drop i her
        simp only [Array.eraseIdxIfInBounds]
        split
        · simpa using this
        · rename_i hge
          rw [List.eraseIdx_of_length_le (by simpa using hge)] at this
          exact this

theorem amapUpdate_sound (hr : HR P w0 m H w) {ty : TypeId} {x k v r : AV} {H' : AH} {xc kc vc : Value} (h : amapUpdate P H ty x k v = some (.val r H')) (hx : conc m x = some xc) (hk : conc m k = some kc) (hv : conc m v = some vc) :
    r = .und ∧ ∃ m' w', (Instr.mapUpdate ty xc kc vc).run P w = .ok () w' ∧ HR P w0 m' H' w' ∧ Grow m m' H H' := by
  unfold amapUpdate at h
  split at h
  case h_2 => simp at h
  case h_1 key elem rr hu =>
    split at h
    case h_2 => simp at h
    case h_1 es hak hg =>
    obtain ⟨kd, hkd⟩ := akey_underlying hak
    obtain ⟨y, hy, rfl⟩ := conc_map hx
    obtain ⟨ces, clock, h1, h2, h3⟩ := hr.objs rr _ y hg hy
    have her : ER m es ces.toList := ER_of (by simpa using h2) (fun i k v e => by simpa using h3 i k v e)
    have hck := akey_run hak hk false w
    have hyc := hr.bound _ _ hy
    cases hf : afind (aeq P eqDepth key) k es 0 with
    | none => simp [hf] at h
    | some fr =>
      obtain ⟨z, hz, hzr⟩ := findKey_run hkd hk w her hf
      cases fr with
      | none =>
        cases z with
        | some _ => exact hzr.elim
        | none =>
        simp [hf] at h
        obtain ⟨rfl, rfl⟩ := h
        refine ⟨rfl, m, { w with heap := w.heap.setIfInBounds y.c (.map (ces.push { key := kc, val := vc, born := clock }) (clock + 1)) }, ?_, hr.turn hg rfl hy (OR_map (clock := clock + 1) (Array.getElem?_setIfInBounds_self_of_lt hyc) ?_), put_grow hy⟩
        · simp [Instr.mapUpdate, run_underlying' hu, run_getMap h1, hck, hz, run_setMap h1]
        · simpa using ER_push (e := { key := kc, val := vc, born := clock }) hk hv her
      | some ix =>
        obtain ⟨i, x'⟩ := ix
        cases z with
        | none => exact hzr.elim
        | some jv =>
        obtain ⟨j, v'⟩ := jv
        obtain ⟨rfl, _⟩ := hzr
        simp only [hf] at h
        cases hka : keyAt es i with
        | none => simp [hka] at h
        | some k' =>
          simp only [hka] at h
          cases hb : (avEq k k' && flatAV k) with
          | false => simp [hb] at h
          | true =>
            simp [hb] at h
            obtain ⟨rfl, rfl⟩ := h
            simp only [Bool.and_eq_true] at hb
            have := avEq_eq _ _ hb.1
            subst this
            have hold : (ces[i]?.map (·.key)).getD kc = kc := by
              have : ∀ {es : List (AV × AV)} {ces : List MapEntry} {i : Nat}, ER m es ces → keyAt es i = some k → ∃ e, ces[i]? = some e ∧ e.key = kc := by
                intro es
                induction es with
                | nil => intro ces i _ h; simp [keyAt] at h
                | cons p l ih =>
                  obtain ⟨k1, v1⟩ := p
                  intro ces i h hka
                  cases ces with
                  | nil => exact h.elim
                  | cons e r =>
                    cases i with
                    | zero =>
                      simp [keyAt] at hka; subst hka
                      have := h.1
                      rw [hk] at this
                      exact ⟨e, by simp, (Option.some.inj this).symm⟩
                    | succ i => simp [keyAt] at hka; simpa using ih h.2.2 hka
              obtain ⟨e, he, hkey⟩ := this her hka
              have he' : ces[i]? = some e := by simpa using he
              simp [he', hkey]
            have hsb : Instr.sameBits 10000 kc kc = true := sameBits_flat hb.2 hk 9999
            refine ⟨rfl, m, { w with heap := w.heap.setIfInBounds y.c (.map (ces.modify i fun e => { e with key := kc, val := vc }) clock) }, ?_, hr.turn hg rfl hy (OR_map (clock := clock) (Array.getElem?_setIfInBounds_self_of_lt hyc) ?_), put_grow hy⟩
            · simp only [Instr.mapUpdate, Sem.run_bind, run_underlying' hu, Result.andThen_ok, run_getMap h1, hck, hz, hold, Instr.keyThatStays, hsb, if_true, Sem.run_pure, run_setMap h1]
            · simpa using ER_set hv her hka hk
end
end Go.AE
