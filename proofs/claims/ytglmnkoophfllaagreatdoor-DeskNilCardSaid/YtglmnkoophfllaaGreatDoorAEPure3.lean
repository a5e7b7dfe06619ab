/-
  The abstract machine's pure operations, all of them, against the model's.
-/
import Derived.Test.YtglmnkoophfllaaGreatDoorAEPure2
namespace Go.AE
open Go

section
variable {P : Program} {w0 : World} {m : MP} {H : AH} {w : World} {a : Act} {t : T AV}

theorem afold_run {f : AV → AV → Option AV} {g : Value → Value → Sem Value} (hf : ∀ x y z u v, f x y = some z → conc m x = some u → conc m y = some v → ∃ zz, (g u v).run P w = .ok zz w ∧ conc m z = some zz) :
    ∀ {l : List AV} {vs : List Value} {x r : AV} {u : Value}, afold f x l = some r → conc m x = some u → concL m l = some vs → ∃ z, (vs.foldlM g u).run P w = .ok z w ∧ conc m r = some z
  | [], vs, x, r, u, h, hx, hl => by
    simp [afold] at h; subst h
    simp [concL_nil] at hl; subst hl
    exact ⟨u, by simp, hx⟩
  | y :: l, vs, x, r, u, h, hx, hl => by
    obtain ⟨v, vs', rfl, h1, h2⟩ := concL_cons.1 hl
    simp only [afold] at h
    cases hz : f x y with
    | none => simp [hz] at h
    | some z =>
      simp only [hz] at h
      obtain ⟨zz, h3, h4⟩ := hf _ _ _ _ _ hz hx h1
      obtain ⟨z', h5, h6⟩ := afold_run hf h h4 h2
      exact ⟨z', by simp [h3, h5], h6⟩

theorem alen_run (hr : HR P w0 m H w) {ty tt : TypeId} {ts : List TypeId} {x v : AV} {u : Value} {us : List Value} (h : alen P H ty x = some v) (hx : conc m x = some u) :
    ∃ z, (Builtin.len_ (ty :: ts).toArray tt (u :: us).toArray).run P w = .ok z w ∧ conc m v = some z := by
  unfold alen at h
  split at h
  case h_1 s hu =>
    cases h; have := conc_str hx; subst this
    refine ⟨goInt (ByteArray.size ⟨s.toArray⟩), ?_, ?_⟩
    · simp [Builtin.len_, run_underlying' hu]
    · simp [conc, goInt, ByteArray.size]
  case h_2 e base n c s hu =>
    cases h; obtain ⟨b, d, rfl⟩ := conc_sl_any hx
    refine ⟨goInt n, ?_, ?_⟩
    · simp [Builtin.len_, run_underlying' hu]
    · simp [conc, goInt]
  case h_3 e b o adv hu =>
    cases h; obtain ⟨y, _, rfl⟩ := conc_sle hx
    refine ⟨goInt (0 : Nat), ?_, ?_⟩
    · simp [Builtin.len_, run_underlying' hu]
    · simp [conc, goInt]
  case h_4 hu =>
    cases h; cases hx
    refine ⟨goInt 0, ?_, ?_⟩
    · simp [Builtin.len_, run_underlying' hu]
    · simp [conc, goInt]
  case h_5 b hu =>
    obtain ⟨y, hy, rfl⟩ := conc_map hx
    split at h
    · rename_i es ho
      cases h
      obtain ⟨ces, clock, h1, h2, _⟩ := hr.objs b _ y ho hy
      refine ⟨goInt ces.size, ?_, ?_⟩
      · simp [Builtin.len_, run_underlying' hu, getObj, Sem.run, h1]
      · simp [conc, goInt, h2]
    · simp at h
  case h_6 n e hu =>
    cases h
    refine ⟨goInt n, ?_, ?_⟩
    · simp [Builtin.len_, run_underlying' hu]
    · simp [conc, goInt]
  case h_7 => simp at h

theorem sliceData_run (ats : Array TypeId) (tt : TypeId) (a : Addr) (n k : Nat) (hk : k ≠ 0) : (Builtin.unsafeSliceData_ ats tt #[.slice (some a) n k]).run P w = .ok (.pointer (some a)) w := by
  show Sem.run P (if k ≠ 0 then pure (Value.pointer (some a)) else _) w = _
  rw [if_pos hk]; rfl

theorem aquietB_run (hr : HR P w0 m H w) {b : Builtin} {ts : List TypeId} {tt : TypeId} {cs : Array Bool} {args : List AV} {us : List Value} {v : AV} (h : aquietB P H b ts args = some v) (hx : concL m args = some us) :
    ∃ z, (builtin b ts.toArray tt cs us.toArray).run P w = .ok (.value z) w ∧ conc m v = some z := by
  unfold aquietB at h
  split at h
  case h_1 t ts x xs =>
    obtain ⟨u, us', rfl, h1, h2⟩ := concL_cons.1 hx
    obtain ⟨z, hz, hc⟩ := alen_run (tt := tt) (ts := ts) (us := us') hr h h1
    exact ⟨z, by simp [builtin, hz], hc⟩
  case h_2 x xs =>
    obtain ⟨u, us', rfl, h1, h2⟩ := concL_cons.1 hx
    have := afold_run (P := P) (w := w) (g := Builtin.min2) (m := m) (fun x y z u v hz hu hv => by
      unfold amin2 at hz
      split at hz
      · cases hz
        have := conc_int hu; subst this
        have := conc_int hv; subst this
        rename_i k i k' j
        refine ⟨.int k (if j < i then j else i), by simp [Builtin.min2], ?_⟩
        by_cases hc : j < i <;> simp [conc, hc]
      · simp at hz) h h1 h2
    obtain ⟨z, hz, hc⟩ := this
    exact ⟨z, by simp [builtin, Builtin.min_, hz], hc⟩
  case h_3 x xs =>
    obtain ⟨u, us', rfl, h1, h2⟩ := concL_cons.1 hx
    have := afold_run (P := P) (w := w) (g := Builtin.max2) (m := m) (fun x y z u v hz hu hv => by
      unfold amax2 at hz
      split at hz
      · cases hz
        have := conc_int hu; subst this
        have := conc_int hv; subst this
        rename_i k i k' j
        refine ⟨.int k (if i < j then j else i), by simp [Builtin.max2], ?_⟩
        by_cases hc : i < j <;> simp [conc, hc]
      · simp at hz) h h1 h2
    obtain ⟨z, hz, hc⟩ := this
    exact ⟨z, by simp [builtin, Builtin.max_, hz], hc⟩
  case h_4 n c s =>
    cases h
    obtain ⟨u, us', rfl, h1, h2⟩ := concL_cons.1 hx
    simp [concL_nil] at h2; subst h2
    simp [conc] at h1; subst h1
    exact ⟨.pointer none, rfl, rfl⟩
  case h_5 b o n c s =>
    cases h
    obtain ⟨u, us', rfl, h1, h2⟩ := concL_cons.1 hx
    simp [concL_nil] at h2; subst h2
    obtain ⟨y, hy, rfl⟩ := conc_sl h1
    refine ⟨.pointer (some ⟨y.c, y.off + o, none⟩), ?_, by simp [conc, hy]⟩
    have hk : c + 1 + (bif s then y.δ else 0) ≠ 0 := by omega
    have key := sliceData_run (P := P) (w := w) ts.toArray tt ⟨y.c, y.off + o, none⟩ n _ hk
    simp only [builtin, Sem.run_bind]
    rw [key]; rfl
  case h_6 => simp at h

theorem shapeRow {c : Nat} {cs : Array Value} {e : TypeId} {fr : Nat × Nat} (h : w.heap[c]? = some (.cells cs e fr)) : w.shape? c = some (e, cs.size) := by
  simp [World.shape?, h]

theorem aconvP_run (hr : HR P w0 m H w) {src dst : TypeId} {x v : AV} {u : Value} (h : aconvP P H src dst x = some v) (hx : conc m x = some u) :
    ∃ z, (convert src dst u).run P w = .ok z w ∧ conc m v = some z := by
  unfold aconvP at h
  split at h
  · rename_i t hs hd
    cases h; cases hx
    exact ⟨.pointer none, by simp [convert, run_underlying' hs, run_underlying' hd, Conv.unsafePointer], rfl⟩
  · rename_i t b off hs hd
    split at h
    · rename_i n vs e s ro fz hsz ho
      cases hlt : Nat.blt off vs.length with
      | false => simp [hlt] at h
      | true =>
        simp [hlt] at h; subst h
        obtain ⟨y, hy, rfl⟩ := conc_ptr hx
        obtain ⟨cs, fr, h1, h2, _⟩ := hr.objs b _ y ho hy
        have hlt : off < vs.length := by simpa using hlt
        obtain ⟨q, hq, _⟩ := h2 off _ (List.getElem?_eq_getElem hlt)
        have hin : y.off + off < cs.size := (Array.getElem?_eq_some_iff.1 hq).1
        refine ⟨_, ?_, hx⟩
        have hin' : ¬ cs.size ≤ y.off + off := by omega
        simp [convert, run_underlying' hs, run_underlying' hd, Conv.unsafePointer, Conv.seenAt, viewAt, shapeRow h1, cellsIn, run_sizeOf hsz, hin']
    · simp at h
  · rename_i u hs hd
    cases h; cases hx
    exact ⟨.pointer none, by simp [convert, run_underlying' hs, run_underlying' hd, Conv.unsafePointer], rfl⟩
  · rename_i u b off hs hd
    split at h
    · rename_i n vs e ro fz hsz ho
      cases hlt : liesAt P P.depth e (vs.length / P.cellsOf e) off u 1 with
      | false => simp [hlt] at h
      | true =>
        simp [hlt] at h; subst h
        obtain ⟨y, hy, rfl⟩ := conc_ptr hx
        obtain ⟨cs, fr, h1, _, _, h4⟩ := hr.objs b _ y ho hy
        obtain ⟨h5, h6⟩ := h4.2 rfl
        refine ⟨_, ?_, hx⟩
        simp [convert, run_underlying' hs, run_underlying' hd, Conv.unsafePointer, Conv.seenAt, viewAt, shapeRow h1, run_sizeOf hsz, variablesAt, h5, h6, hlt]
    · simp at h
  · simp at h

theorem apure_sound (hr : HR P w0 m H w) (hG : GL P m) (ht : TR m t a.tmps) {o : Oper} {v : AV} (h : apure P H t o = some v) :
    ∃ u, (execOp a.eval o).run P w = .ok (.value u) w ∧ conc m v = some u := by
  unfold apure at h
  split at h
  case h_1 x ho => exact ⟨_, by simp [execOp, ho], aev_conc hG ht h⟩
  case h_2 c x y ho =>
    split at h
    case h_1 p q hc hx hy =>
      cases h
      have e := (conc_bool (aev_conc hG ht hc))
      exact ⟨_, by simp [execOp, ho, e, asBool], aev_conc hG ht hx⟩
    case h_2 p q hc hx hy =>
      cases h
      have e := (conc_bool (aev_conc hG ht hc))
      exact ⟨_, by simp [execOp, ho, e, asBool], aev_conc hG ht hy⟩
    case h_3 => simp at h
  case h_3 ty parts ho =>
    split at h
    case h_1 ps z fs hps hz hu =>
      cases hpl : placesOf P fs.toList with
      | none => simp [hpl] at h
      | some pl =>
        simp only [hpl] at h
        cases hf : afill (nthP pl) z ps with
        | none => simp [hf] at h
        | some l =>
          simp [hf] at h; subst h
          obtain ⟨zu, hz1, hz2, _⟩ := zeroOf_run m hz w
          obtain ⟨zs, hzs, rfl⟩ := conc_agg.1 hz2
          have hpr := aparts_conc hG ht hps
          obtain ⟨us, hfill, hl⟩ := afill_fill hf hpr hzs
          have hnth : nthP pl = (fun i => pl.toArray[i]?) := by funext i; rw [nthP_get]; simp
          rw [hnth] at hfill
          refine ⟨.agg us, ?_, conc_agg.2 ⟨us.toList, hl, by simp⟩⟩
          have hpp := placesOf_run hpl w
          simp only [execOp, ho, Instr.build, Sem.run_bind, hz1, Result.andThen_ok, Value.cells, run_underlying' hu]
          rw [Array.mapM_eq_mapM_toList]
          simp only [Sem.run_map]
          rw [hpp]
          simp only [Result.andThen_ok]
          have e2 : (parts.map fun x => (x.1, a.eval x.2)).toList = parts.toList.map fun x => (x.1, a.eval x.2) := by simp
          have hfill' : Instr.fill (fun i => pl.toArray[i]?) zs.toArray (parts.map fun x => (x.1, a.eval x.2)).toList = some us := by rw [e2]; exact hfill
          have e3 : (parts.map fun (x : Nat × Operand) => match x with | (i, x) => (i, a.eval x)) = parts.map fun x => (x.1, a.eval x.2) := rfl
          rw [e3, hfill']
          rfl
    case h_2 ps z n e hps hz hu =>
      cases hs : sizeOfT P e with
      | none => simp [hs] at h
      | some k =>
        simp only [hs] at h
        cases hf : afill (fun i => some (i * k, k)) z ps with
        | none => simp [hf] at h
        | some l =>
          simp [hf] at h; subst h
          obtain ⟨zu, hz1, hz2, _⟩ := zeroOf_run m hz w
          obtain ⟨zs, hzs, rfl⟩ := conc_agg.1 hz2
          have hpr := aparts_conc hG ht hps
          obtain ⟨us, hfill, hl⟩ := afill_fill hf hpr hzs
          refine ⟨.agg us, ?_, conc_agg.2 ⟨us.toList, hl, by simp⟩⟩
          simp only [execOp, ho, Instr.build, Sem.run_bind, hz1, Result.andThen_ok, Value.cells, run_underlying' hu, run_sizeOf hs]
          have e2 : (parts.map fun x => (x.1, a.eval x.2)).toList = parts.toList.map fun x => (x.1, a.eval x.2) := by simp
          have hfill' : Instr.fill (fun i => some (i * k, k)) zs.toArray (parts.map fun x => (x.1, a.eval x.2)).toList = some us := by rw [e2]; exact hfill
          have e3 : (parts.map fun (x : Nat × Operand) => match x with | (i, x) => (i, a.eval x)) = parts.map fun x => (x.1, a.eval x.2) := rfl
          rw [e3, hfill']
          rfl
    case h_3 => simp at h
  case h_4 ty x ho =>
    split at h
    case h_1 b off hx =>
      obtain ⟨y, hy, e⟩ := conc_ptr (aev_conc hG ht hx)
      obtain ⟨u, hu, hc⟩ := run_loadT hr h hy
      exact ⟨u, by simp [execOp, ho, e, Instr.loadAt, Instr.sureAddr, hu], hc⟩
    case h_2 => simp at h
  case h_5 x ho =>
    split at h
    case h_1 p hx =>
      cases h
      have hc := aev_conc hG ht hx
      obtain ⟨b, o⟩ := p
      obtain ⟨y, hy, e⟩ := conc_ptr hc
      exact ⟨a.eval x, by simp [execOp, ho, e], hc⟩
    case h_2 f p q hx =>
      cases h
      have hc := aev_conc hG ht hx
      obtain ⟨p', q', _, _, e⟩ := conc_func hc
      exact ⟨a.eval x, by simp [execOp, ho, e], hc⟩
    case h_3 l hx =>
      cases h
      have hc := aev_conc hG ht hx
      obtain ⟨y, _, e⟩ := conc_yieldF hc
      exact ⟨a.eval x, by simp [execOp, ho, e], hc⟩
    case h_4 ty v hx =>
      cases h
      have hc := aev_conc hG ht hx
      obtain ⟨y, _, e⟩ := conc_iface hc
      exact ⟨a.eval x, by simp [execOp, ho, e], hc⟩
    case h_5 => simp at h
  case h_6 op ty x y yt ho =>
    split at h
    case h_1 p q hx hy =>
      obtain ⟨z, hz, hc⟩ := abin_run h (aev_conc hG ht hx) (aev_conc hG ht hy) w
      refine ⟨z, ?_, hc⟩
      simp only [execOp, ho]
      rw [Sem.run_bind, hz]
      rfl
    case h_2 => simp at h
  case h_7 op ty x ho =>
    split at h
    case h_1 p hx =>
      unfold aun at h
      split at h
      · rename_i k n
        cases h
        have e := conc_int (aev_conc hG ht hx)
        exact ⟨.int k (k.wrap (0 - n)), by simp [execOp, ho, e, Op.unary, Op.intArith], by simp [conc]⟩
      · rename_i k n
        cases h
        have e := conc_int (aev_conc hG ht hx)
        refine ⟨_, ?_, rfl⟩
        simp only [execOp, ho, e, Op.unary, Op.intBits]
        cases k.signed <;> simp
      · rename_i b
        cases h
        have e := conc_bool (aev_conc hG ht hx)
        exact ⟨.bool (!b), by simp [execOp, ho, e, Op.unary], by simp [conc]⟩
      · simp at h
    case h_2 => simp at h
  case h_8 src dst x ho =>
    split at h
    case h_1 p hx =>
      obtain ⟨z, hz, hc⟩ := aconvP_run hr h (aev_conc hG ht hx)
      exact ⟨z, by simp [execOp, ho, hz], hc⟩
    case h_2 p hne hx =>
      clear hne
      unfold aconv at h
      split at h
      · rename_i k _ n hs hd
        cases h
        have e := conc_int (aev_conc hG ht hx)
        exact ⟨.int k (k.wrap n), by simp [execOp, ho, e, convert, run_underlying' hs, run_underlying' hd, Conv.intToInt], by simp [conc]⟩
      · rename_i s hs hd
        cases h
        have e := conc_str (aev_conc hG ht hx)
        refine ⟨.string ⟨s.toArray⟩, ?_, by simp [conc]⟩
        simp [execOp, ho, e, convert, run_underlying' hs, run_underlying' hd]
      · simp at h
    case h_3 => simp at h
  case h_9 ty x ho =>
    split at h
    case h_1 => simp at h
    case h_2 p d hni hx hu =>
      cases h
      refine ⟨.iface ty (a.eval x), ?_, by simp [conc, aev_conc hG ht hx]⟩
      simp only [execOp, ho, Instr.makeInterface, Sem.run_bind, run_underlying' hu, Result.andThen_ok]
      cases d <;> first | exact absurd rfl (hni _) | simp | exact absurd hu (hni _) | (exfalso; exact hni _ hu)
    case h_3 => simp at h
  case h_10 f first cap ho =>
    split at h
    case h_1 p q hp hq =>
      cases h
      refine ⟨.func (.func f) (first.map a.eval) (cap.map a.eval), by simp [execOp, ho, Instr.makeFunc], ?_⟩
      have h1 := aevs_conc hG ht hp
      have h2 := aevs_conc hG ht hq
      simp only [conc, h1, h2]
      congr 2 <;> (apply Array.ext'; simp)
    case h_2 => simp at h
  case h_11 ty x lo hi mx ho =>
    split at h
    case h_1 p l hh mm hx hl hhi hmx =>
      obtain ⟨z, hz, hc⟩ := aslice_run h (aev_conc hG ht hx) (aevo_conc hG ht hl) (aevo_conc hG ht hhi) (aevo_conc hG ht hmx) w
      exact ⟨z, by simp [execOp, ho, hz], hc⟩
    case h_2 => simp at h
  case h_12 s x f ho =>
    split at h
    case h_1 b off fs hx hfs =>
      unfold fieldsOf at hfs
      split at hfs
      case h_2 => simp at hfs
      case h_1 fa hu =>
      cases hfs
      rw [nthF_get] at h
      cases hf : fa.toList[f]? with
      | none => simp [hf] at h
      | some fd =>
        simp only [hf] at h
        cases hs : sizeOfT P fd.type with
        | none => simp [hs] at h
        | some k => cases k with
          | zero => simp [hs] at h
          | succ k =>
            simp [hs] at h; subst h
            obtain ⟨y, hy, e⟩ := conc_ptr (aev_conc hG ht hx)
            have hf' : fa[f]? = some fd := by simpa using hf
            refine ⟨.pointer (some ⟨y.c, y.off + (off + fd.offset), none⟩), ?_, by simp [conc, hy]⟩
            simp [execOp, ho, e, Instr.fieldAt, run_underlying' hu, hf', Instr.sureAddr, fieldPlace, run_sizeOf hs, addr_add, Nat.add_assoc]
    case h_2 => simp at h
  case h_13 ty x f ho =>
    split at h
    case h_1 cs fs hx hfs =>
      unfold fieldsOf at hfs
      split at hfs
      case h_2 => simp at hfs
      case h_1 fa hu =>
      cases hfs
      rw [nthF_get] at h
      cases hf : fa.toList[f]? with
      | none => simp [hf] at h
      | some fd =>
        simp only [hf] at h
        obtain ⟨us, hus, e⟩ := conc_agg.1 (aev_conc hG ht hx)
        obtain ⟨u, hu1, hc⟩ := partOf_run h hus w
        have hf' : fa[f]? = some fd := by simpa using hf
        exact ⟨u, by simp [execOp, ho, e, Instr.field, run_underlying' hu, hf', asAgg, hu1], hc⟩
    case h_2 => simp at h
  case h_14 ty x ix ho =>
    split at h
    case h_1 b off len c s k i e hx hi hu =>
      split at h
      case h_1 n hb hs =>
        cases h
        simp at hb
        obtain ⟨y, hy, e1⟩ := conc_sl (aev_conc hG ht hx)
        have e2 := conc_int (aev_conc hG ht hi)
        refine ⟨.pointer (some ⟨y.c, y.off + (off + i.toNat * n), none⟩), ?_, by simp [conc, hy]⟩
        have hb' : 0 ≤ i ∧ i < (len : Int) := hb
        simp [execOp, ho, e1, e2, Instr.indexAt, asIntOf, run_underlying' hu, hb', run_sizeOf hs, addr_add, Nat.add_assoc]
      case h_2 => simp at h
    case h_2 b off k i len e hx hi hu =>
      split at h
      case h_1 n hb hs =>
        cases h
        simp at hb
        obtain ⟨y, hy, e1⟩ := conc_ptr (aev_conc hG ht hx)
        have e2 := conc_int (aev_conc hG ht hi)
        refine ⟨.pointer (some ⟨y.c, y.off + (off + i.toNat * n), none⟩), ?_, by simp [conc, hy]⟩
        have hb' : 0 ≤ i ∧ i < (len : Int) := hb
        simp [execOp, ho, e1, e2, Instr.indexAt, asIntOf, run_underlying' hu, Instr.sureAddr, hb', run_sizeOf hs, addr_add, Nat.add_assoc]
      case h_2 => simp at h
    case h_3 => simp at h
  case h_15 ty x ix ho =>
    split at h
    case h_1 cs k i len e hx hi hu =>
      split at h
      case h_1 n hb hs =>
        simp at hb
        obtain ⟨us, hus, e1⟩ := conc_agg.1 (aev_conc hG ht hx)
        have e2 := conc_int (aev_conc hG ht hi)
        obtain ⟨u, hu1, hc⟩ := partOf_run h hus w
        have hb' : 0 ≤ i ∧ i < (len : Int) := hb
        exact ⟨u, by simp [execOp, ho, e1, e2, Instr.index, asIntOf, run_underlying' hu, hb', run_sizeOf hs, hu1], hc⟩
      case h_2 => simp at h
    case h_2 s k i hx hi hu =>
      split at h
      case h_2 => simp at h
      case h_1 hb =>
        simp at hb
        rw [nthB_get] at h
        cases hg : s[i.toNat]? with
        | none => simp [hg] at h
        | some bb =>
          simp [hg] at h; subst h
          have e1 := conc_str (aev_conc hG ht hx)
          have e2 := conc_int (aev_conc hG ht hi)
          refine ⟨.int .u8 bb.toNat, ?_, by simp [conc]⟩
          have hlt := (List.getElem?_eq_some_iff.1 hg)
          have hsz : (⟨s.toArray⟩ : ByteArray).size = s.length := by simp [ByteArray.size]
          have hg' : (⟨s.toArray⟩ : ByteArray)[i.toNat]? = some bb := by
            have h1 : i.toNat < (⟨s.toArray⟩ : ByteArray).size := by rw [hsz]; exact hlt.1
            rw [getElem?_pos (⟨s.toArray⟩ : ByteArray) i.toNat h1]
            exact congrArg some hlt.2
          simp [execOp, ho, e1, e2, Instr.index, asIntOf, run_underlying' hu, hb, hg']
    case h_3 => simp at h
  case h_16 ty x k ok ho =>
    split at h
    case h_1 p q hx hk =>
      obtain ⟨z, hz, hc⟩ := alookup_run hr h (aev_conc hG ht hx) (aev_conc hG ht hk)
      exact ⟨z, by simp [execOp, ho, hz], hc⟩
    case h_2 => simp at h
  case h_17 x xt asserted ho =>
    split at h
    case h_1 => simp at h
    case h_2 d hni hx hu =>
      cases hz : zeroOf P asserted with
      | none => simp [hz] at h
      | some z =>
        simp [hz] at h; subst h
        obtain ⟨u, hu1, hc, _⟩ := zeroOf_run m hz w
        have e : a.eval x = .nilIface := by have := aev_conc hG ht hx; simp [conc] at this; exact this.symm
        refine ⟨.tuple #[u, .bool false], ?_, by simp [conc, concL, hc]⟩
        simp only [execOp, ho, e, Instr.typeAssert, Sem.run_bind, run_underlying' hu, Result.andThen_ok]
        cases d <;> first | (exfalso; exact hni _ hu) | simp [hu1]
    case h_3 ty v d hni hx hu =>
      obtain ⟨y, hy, e⟩ := conc_iface (aev_conc hG ht hx)
      cases hb : Nat.beq ty asserted with
      | true =>
        simp [hb] at h; subst h
        have := Nat.eq_of_beq_eq_true hb; subst this
        refine ⟨.tuple #[y, .bool true], ?_, by simp [conc, concL, hy]⟩
        simp only [execOp, ho, e, Instr.typeAssert, Sem.run_bind, run_underlying' hu, Result.andThen_ok]
        cases d <;> first | (exfalso; exact hni _ hu) | simp
      | false =>
        simp only [hb] at h
        have hne := Nat.ne_of_beq_eq_false hb
        cases hz : zeroOf P asserted with
        | none => simp [hz] at h
        | some z =>
          simp [hz] at h; subst h
          obtain ⟨u, hu1, hc, _⟩ := zeroOf_run m hz w
          refine ⟨.tuple #[u, .bool false], ?_, by simp [conc, concL, hc]⟩
          simp only [execOp, ho, e, Instr.typeAssert, Sem.run_bind, run_underlying' hu, Result.andThen_ok]
          cases d <;> first | (exfalso; exact hni _ hu) | simp [hne, hu1]
    case h_4 => simp at h
  case h_18 x ix ho =>
    split at h
    case h_1 vs hx =>
      obtain ⟨us, hus, e⟩ := conc_tup.1 (aev_conc hG ht hx)
      rw [nth_get] at h
      obtain ⟨u, hu, hc⟩ := concL_get hus _ _ h
      exact ⟨u, by simp [execOp, ho, e, Instr.extract, hu], hc⟩
    case h_2 => simp at h
  case h_19 b args ts ho =>
    split at h
    case h_1 vs hvs =>
      have hc := aevs_conc hG ht hvs
      obtain ⟨z, hz, hc'⟩ := aquietB_run (tt := o.type) (cs := args.map fun | .const _ => true | _ => false) hr h hc
      refine ⟨z, ?_, hc'⟩
      simp only [execOp, ho, resolve, Sem.run_bind, Sem.run_pure, Result.andThen_ok, invoke]
      have e : args.map a.eval = (args.toList.map a.eval).toArray := by apply Array.ext'; simp
      have e2 : ts = ts.toList.toArray := by simp
      rw [e, e2]
      exact hz
    case h_2 => simp at h
  case h_20 => simp at h
end
end Go.AE
