/-
  The abstract machine's active operations against the model's.
-/
import Derived.Test.YtglmnkoophfllaaGreatDoorAEFresh
import Derived.Deep.AppendSrc
namespace Go.AE
open Go

mutual
theorem avEq_eq : ∀ (a b : AV), avEq a b = true → a = b
  | .und, b, h => by cases b <;> simp [avEq] at h ⊢
  | .bool x, b, h => by cases b <;> simp [avEq] at h ⊢; exact h
  | .int k x, b, h => by
    cases b <;> simp [avEq] at h ⊢
    exact ⟨kindEq_iff h.1, by have := h.2; rw [intEq_iff] at this; simpa using this⟩
  | .float k x, b, h => by
    cases b <;> simp [avEq] at h ⊢
    exact ⟨fkindEq_iff h.1, h.2⟩
  | .str x, b, h => by cases b <;> simp [avEq] at h ⊢; rw [bytesEq_iff] at h; simpa using h
  | .ptr none, b, h => by
    cases b with
    | ptr q => cases q <;> simp [avEq] at h ⊢
    | _ => simp [avEq] at h
  | .ptr (some (x, o)), b, h => by
    cases b with
    | ptr q => cases q with
      | none => simp [avEq] at h
      | some p => obtain ⟨x', o'⟩ := p; simp [avEq] at h ⊢; exact h
    | _ => simp [avEq] at h
  | .sl none n c s, b, h => by
    cases b with
    | sl q n' c' s' => cases q <;> simp [avEq] at h ⊢; exact ⟨h.1.1, h.1.2, h.2⟩
    | _ => simp [avEq] at h
  | .sl (some (x, o)) n c s, b, h => by
    cases b with
    | sl q n' c' s' => cases q with
      | none => simp [avEq] at h
      | some p => obtain ⟨x', o'⟩ := p; simp [avEq] at h ⊢; obtain ⟨⟨⟨⟨h1, h2⟩, h3⟩, h4⟩, h5⟩ := h; exact ⟨⟨h1, h2⟩, h3, h4, h5⟩
    | _ => simp [avEq] at h
  | .sle x o a, b, h => by
    cases b <;> simp [avEq] at h ⊢
    obtain ⟨⟨h1, h2⟩, h3⟩ := h
    exact ⟨h1, h2, h3⟩
  | .map none, b, h => by
    cases b with
    | map q => cases q <;> simp [avEq] at h ⊢
    | _ => simp [avEq] at h
  | .map (some x), b, h => by
    cases b with
    | map q => cases q with
      | none => simp [avEq] at h
      | some p => simp [avEq] at h ⊢; exact h
    | _ => simp [avEq] at h
  | .func f a c, b, h => by
    cases b with
    | func f' a' c' =>
      simp only [avEq, Bool.and_eq_true] at h
      obtain ⟨⟨h1, h2⟩, h3⟩ := h
      rw [Nat.eq_of_beq_eq_true h1, avEqL_eq a a' h2, avEqL_eq c c' h3]
    | _ => simp [avEq] at h
  | .yieldF x, b, h => by cases b <;> simp [avEq] at h ⊢; exact h
  | .nilFunc, b, h => by cases b <;> simp [avEq] at h ⊢
  | .iface t v, b, h => by
    cases b with
    | iface t' v' =>
      simp only [avEq, Bool.and_eq_true] at h
      rw [Nat.eq_of_beq_eq_true h.1, avEq_eq v v' h.2]
    | _ => simp [avEq] at h
  | .nilIface, b, h => by cases b <;> simp [avEq] at h ⊢
  | .agg l, b, h => by
    cases b with
    | agg l' => simp only [avEq] at h; rw [avEqL_eq l l' h]
    | _ => simp [avEq] at h
  | .tup l, b, h => by
    cases b with
    | tup l' => simp only [avEq] at h; rw [avEqL_eq l l' h]
    | _ => simp [avEq] at h
theorem avEqL_eq : ∀ (a b : List AV), avEqL a b = true → a = b
  | [], [], _ => rfl
  | [], _ :: _, h => by simp [avEqL] at h
  | _ :: _, [], h => by simp [avEqL] at h
  | a :: x, b :: y, h => by
    simp only [avEqL, Bool.and_eq_true] at h
    rw [avEq_eq a b h.1, avEqL_eq x y h.2]
end

section
variable {P : Program} {w0 : World} {m : MP} {H : AH} {w : World} {a : Act} {t : T AV}

/-- A step's memory: what was mapped stays, what was made and not mapped stays as it was. -/
structure Grow (m m' : MP) (H H' : AH) : Prop where
  ext : Ext m m'
  next : H.next ≤ H'.next
  old : ∀ b, m b = none → b < H.next → m' b = none ∧ H'.get b = H.get b

theorem Grow.refl (m : MP) (H : AH) : Grow m m H H := ⟨Ext.refl m, Nat.le_refl _, fun _ h _ => ⟨h, rfl⟩⟩

/-! ### Stores -/
theorem storeN_old {b off : Nat} {xs : List AV} {H' : AH} (h : storeN H b off xs = some H') : ∀ k, k ≠ b → H'.get k = H.get k := by
  intro k hk
  cases xs with
  | nil => simp [storeN] at h; subst h; rfl
  | cons y ys =>
    simp only [storeN] at h
    split at h
    · split at h
      · split at h
        · cases h; rw [AH.get_put, if_neg hk]
        · simp at h
      · simp at h
    · simp at h
theorem storeN_grow {b off : Nat} {xs : List AV} {H' : AH} {x : MB} (h : storeN H b off xs = some H') (hm : m b = some x) (hn : H'.next = H.next) : Grow m m H H' :=
  ⟨Ext.refl m, by omega, fun k hk _ => ⟨hk, storeN_old h k (by intro e; subst e; rw [hm] at hk; cases hk)⟩⟩
theorem storeT_grow {ty : TypeId} {b off : Nat} {v : AV} {H' : AH} {x : MB} (h : storeT P H ty b off v = some H') (hm : m b = some x) (hn : H'.next = H.next) : Grow m m H H' := by
  unfold storeT at h
  split at h
  · split at h
    · exact storeN_grow h hm hn
    · simp at h
  · simp at h

/-! ### append -/
theorem concL_bytes (m : MP) : ∀ (s : List UInt8), concL m (s.map fun b => .int .u8 b.toNat) = some (s.map fun b => .int .u8 b.toNat)
  | [] => rfl
  | b :: s => concL_cons.2 ⟨_, _, rfl, by simp [conc], concL_bytes m s⟩

theorem acells_run (hr : HR P w0 m H w) {e : TypeId} {size n : Nat} {x : AV} {xs : List AV} {xc : Value} (hs : sizeOfT P e = some size) (h : acells P H e n x = some xs) (hx : conc m x = some xc) :
    ∃ us, (Builtin.firstCells size n xc).run P w = .ok us.toArray w ∧ concL m xs = some us ∧ ∀ L, alenOf x = some L → n ≤ L → us.length = n * size := by
  unfold acells at h
  rw [hs] at h
  cases x with
  | sl base len c s => cases base with
    | some p =>
      obtain ⟨b, off⟩ := p
      simp only at h
      obtain ⟨y, hy, rfl⟩ := conc_sl hx
      obtain ⟨us, h1, h2, h3⟩ := run_loadN hr h hy
      exact ⟨us, by simp [Builtin.firstCells, h1], h2, fun _ _ _ => h3⟩
    | none =>
      cases n with
      | succ n => simp at h
      | zero =>
        simp at h; subst h
        simp [conc] at hx; subst hx
        exact ⟨[], by simp [Builtin.firstCells], rfl, fun _ _ _ => by simp⟩
  | sle b o adv =>
    cases n with
    | succ n => simp at h
    | zero =>
      simp at h; subst h
      obtain ⟨y, hy, rfl⟩ := conc_sle hx
      exact ⟨[], by simp [Builtin.firstCells, loadCells, loadCellsFrom], rfl, fun _ _ _ => by simp⟩
  | str s =>
    have h1 : size = 1 := by
      match size, h with
      | 1, _ => rfl
    subst h1
    simp at h; subst h
    have := conc_str hx; subst this
    refine ⟨(s.take n).map fun b => .int .u8 b.toNat, ?_, by rw [← List.map_take]; exact concL_bytes m _, fun L hL hn => ?_⟩
    · simp only [Builtin.firstCells, Sem.run_pure]
      rw [ByteArray.extract_mk]
      simp
    · simp [alenOf] at hL; subst hL; simp; omega
  | _ => simp at h

theorem alenOf_run {x : AV} {n : Nat} {xc : Value} (h : alenOf x = some n) (hx : conc m x = some xc) (w : World) : (Builtin.lenOf xc).run P w = .ok n w := by
  unfold alenOf at h
  split at h
  · cases h; obtain ⟨b, d, rfl⟩ := conc_sl_any hx; simp [Builtin.lenOf]
  · cases h; obtain ⟨y, _, rfl⟩ := conc_sle hx; simp [Builtin.lenOf]
  · cases h; have := conc_str hx; subst this; simp [Builtin.lenOf, ByteArray.size]
  · simp at h

theorem HR.kill {P : Program} {w0 : World} {m : MP} {H : AH} {w : World} (hr : HR P w0 m H w) (b : Nat) : HR P w0 m (H.kill b) w := by
  have key : ∀ k o, (H.kill b).get k = some o → H.get k = some o := fun k o h => by
    rw [AH.get_kill] at h
    by_cases e : k = b
    · rw [if_pos e] at h; cases h
    · rwa [if_neg e] at h
  refine ⟨fun b1 o1 x1 h1 h2 => hr.objs b1 o1 x1 (key _ _ h1) h2, fun b1 b2 o1 o2 x1 x2 h1 h2 => hr.inj b1 b2 o1 o2 x1 x2 (key _ _ h1) (key _ _ h2), hr.low, fun b1 h1 => ?_, hr.bound,
    fun b1 o1 x1 h1 => hr.wr b1 o1 x1 (key _ _ h1), hr.grow, hr.keep, hr.tape, hr.os, hr.output⟩
  rw [AH.get_kill]
  split
  · rfl
  · exact hr.have_ b1 h1

/-- A row that has grown in its place: another abstract block, the same one here. -/
theorem HR.inPlace {P : Program} {w0 : World} {m : MP} {H : AH} {w : World} (hr : HR P w0 m H w) {b : Nat} {o o' : AObj} {y : MB} {off δ : Nat} {obj : Obj} (ho : H.get b = some o) (hw : o.wr = true) (hm : m b = some y)
    (hn : OR P (upd m H.next ⟨y.c, y.off + off, δ⟩) o' ⟨y.c, y.off + off, δ⟩ { w with heap := w.heap.setIfInBounds y.c obj }) :
    HR P w0 (upd m H.next ⟨y.c, y.off + off, δ⟩) ((H.kill b).new o') { w with heap := w.heap.setIfInBounds y.c obj } := by
  have hfresh := hr.fresh
  have hext : Ext m (upd m H.next ⟨y.c, y.off + off, δ⟩) := Ext.upd hfresh _
  have hyc := hr.bound _ _ hm
  have hget : ∀ k, ((H.kill b).new o').get k = if k = H.next then some o' else if k = b then none else H.get k := fun k => by
    rw [AH.get_new, AH.get_kill]; rfl
  have hbn : b ≠ H.next := fun e => by have := hr.low b y hm; omega
  have old : ∀ k o1 x1, k ≠ H.next → ((H.kill b).new o').get k = some o1 → upd m H.next ⟨y.c, y.off + off, δ⟩ k = some x1 → H.get k = some o1 ∧ m k = some x1 ∧ k ≠ b := fun k o1 x1 hk h1 h2 => by
    rw [hget, if_neg hk] at h1
    rw [upd_other _ _ hk] at h2
    by_cases e : k = b
    · rw [if_pos e] at h1; cases h1
    · rw [if_neg e] at h1; exact ⟨h1, h2, e⟩
  have newc : ∀ o1 x1, ((H.kill b).new o').get H.next = some o1 → upd m H.next ⟨y.c, y.off + off, δ⟩ H.next = some x1 → o1 = o' ∧ x1 = ⟨y.c, y.off + off, δ⟩ := fun o1 x1 h1 h2 => by
    rw [hget, if_pos rfl] at h1
    rw [upd_same] at h2
    cases h1; cases h2; exact ⟨rfl, rfl⟩
  refine ⟨fun k o1 x1 h1 h2 => ?_, fun k k' o1 o2 x1 x2 h1 h2 h3 h4 hne => ?_, fun k x h => ?_, fun k hk => ?_, fun k x h => ?_, fun k o1 x1 h1 h2 h3 => ?_, by simpa using hr.grow, fun c hc => ?_, hr.tape, hr.os, hr.output⟩
  · by_cases e : k = H.next
    · subst e; obtain ⟨rfl, rfl⟩ := newc _ _ h1 h2; exact hn
    · obtain ⟨h3, h4, h5⟩ := old _ _ _ e h1 h2
      have hne := hr.inj k b o1 o x1 y h3 ho h4 hm h5
      exact OR.mono hext (Array.getElem?_setIfInBounds_ne (fun h => hne h.symm)) (hr.objs k o1 x1 h3 h4)
  · by_cases e : k = H.next <;> by_cases e' : k' = H.next
    · exact absurd (e.trans e'.symm) hne
    · subst e; obtain ⟨rfl, rfl⟩ := newc _ _ h1 h3
      obtain ⟨h5, h6, h7⟩ := old _ _ _ e' h2 h4
      exact fun h => hr.inj k' b o2 o x2 y h5 ho h6 hm h7 h.symm
    · subst e'; obtain ⟨rfl, rfl⟩ := newc _ _ h2 h4
      obtain ⟨h5, h6, h7⟩ := old _ _ _ e h1 h3
      exact hr.inj k b o1 o x1 y h5 ho h6 hm h7
    · obtain ⟨h5, h6, _⟩ := old _ _ _ e h1 h3
      obtain ⟨h7, h8, _⟩ := old _ _ _ e' h2 h4
      exact hr.inj k k' o1 o2 x1 x2 h5 h7 h6 h8 hne
  · show k < H.next + 1
    by_cases e : k = H.next
    · omega
    · rw [upd_other _ _ e] at h; have := hr.low k x h; omega
  · have hk' : H.next + 1 ≤ k := hk
    rw [hget, if_neg (by omega)]
    split
    · rfl
    · exact hr.have_ k (by omega)
  · by_cases e : k = H.next
    · subst e; rw [upd_same] at h; cases h; simpa using hyc
    · rw [upd_other _ _ e] at h; simpa using hr.bound k x h
  · by_cases e : k = H.next
    · subst e; obtain ⟨rfl, rfl⟩ := newc _ _ h1 h3; exact hr.wr b o y ho hw hm
    · obtain ⟨h5, h6, _⟩ := old _ _ _ e h1 h3
      exact hr.wr k o1 x1 h5 h2 h6
  · have := hr.wr b o y ho hw hm
    exact (Array.getElem?_setIfInBounds_ne (by omega)).trans (hr.keep c hc)

theorem one_of_conc {xs : List AV} {us : List Value} (h : concL m xs = some us) (h1 : allOne xs = true) : ∀ u ∈ us, u.oneCell' = true := by
  intro v hv
  obtain ⟨i, hi⟩ := List.getElem?_of_mem hv
  have hl := concL_length h
  have hi' : i < xs.length := by have := (List.getElem?_eq_some_iff.1 hi).1; omega
  obtain ⟨v', hv', hc'⟩ := concL_get h i _ (List.getElem?_eq_getElem hi')
  rw [hi] at hv'; cases hv'
  exact one_conc hc' (allOne_mem _ h1 _ (List.getElem_mem hi'))

theorem append_room {t tx ty e : TypeId} {i : TypeInfo} (ht : P.underlying t = some (.slice e)) (hkind : (∃ e', P.underlying tx = some (.slice e')) ∨ P.underlying tx = some .string) (hi : P.info? e = some i)
    {b : Option Addr} {len cap n : Nat} {x : Value} {new : List Value} (hlen : ∀ w : World, (Builtin.lenOf x).run P w = .ok n w) (hnew : (Builtin.firstCells i.size n x).run P w = .ok new.toArray w) (hroom : len + n ≤ cap)
    {w' : World} (hst : match b with | some a => (storeCells (a.add (len * i.size)) new).run P w = .ok () w' | none => w' = w) :
    (Builtin.append_ #[t, tx] ty #[.slice b len cap, x]).run P w = .ok (.slice b (len + n) cap) w' := by
  cases b with
  | some a => rcases hkind with ⟨e', hk⟩ | hk <;> simp [Builtin.append_, run_underlying' ht, run_underlying' hk, sizeOf, typeInfo, hi, hlen, hroom, hnew, hst]
  | none => simp only at hst; subst hst; rcases hkind with ⟨e', hk⟩ | hk <;> simp [Builtin.append_, run_underlying' ht, run_underlying' hk, sizeOf, typeInfo, hi, hlen, hroom, hnew]


theorem zeroOf_info {e : TypeId} {i : TypeInfo} {z : AV} (hi : P.info? e = some i) (h : zeroOf P e = some z) : ∃ u, i.zero = some u ∧ conc m z = some u := by
  obtain ⟨u, h1, h2, _⟩ := zeroOf_run m h (default : World)
  refine ⟨u, ?_, h2⟩
  cases hz : i.zero with
  | none => simp [zeroValue, run_typeInfo' hi, hz] at h1
  | some v => simp [zeroValue, run_typeInfo' hi, hz] at h1; rw [h1]

theorem aappendAt_sound (hr : HR P w0 m H w) {sT xT e tt : TypeId} (hu : P.underlying sT = some (.slice e)) (hkind : (∃ e', P.underlying xT = some (.slice e')) ∨ P.underlying xT = some .string)
    {base : Option (Nat × Nat)} {len cap : Nat} {slack : Bool} {x v : AV} {sc xc : Value} {H' : AH} (h : aappendAt P H e base len cap slack x = some (.val v H')) (hs : conc m (.sl base len cap slack) = some sc) (hxc : conc m x = some xc) :
    ∃ m' w' u, (Builtin.append_ #[sT, xT] tt #[sc, xc]).run P w = .ok u w' ∧ conc m' v = some u ∧ HR P w0 m' H' w' ∧ Grow m m' H H' := by
  unfold aappendAt at h
  cases hi : P.info? e with
  | none => simp [hi] at h
  | some i =>
  simp only [hi] at h
  split at h
  case h_2 => simp at h
  case h_1 size bytes hsz hby =>
  have hsz : i.size = size + 1 := hsz
  have hby : i.bytes = bytes + 1 := hby
  have hsize : sizeOfT P e = some (size + 1) := by simp [sizeOfT, hi, hsz]
  generalize hk : size + 1 = k at *
  generalize hkb : bytes + 1 = kb at *
  have hkpos : 0 < k := by omega
  cases hn : alenOf x with
  | none => simp [hn] at h
  | some n =>
  simp only [hn] at h
  cases hc : acells P H e n x with
  | none => simp [hc] at h
  | some xs =>
  simp only [hc] at h
  obtain ⟨new, hnew, hcn, hlen⟩ := acells_run hr hsize hc hxc
  have hlen := hlen n hn (Nat.le_refl _)
  have hcl := concL_length hcn
  have hlenr := fun w : World => alenOf_run (P := P) hn hxc w
  have hnew' : (Builtin.firstCells i.size n xc).run P w = .ok new.toArray w := by rw [hsz]; exact hnew
  cases hfit : Nat.ble (len + n) cap with
  | true =>
    simp only [hfit] at h
    have hle := Nat.le_of_ble_eq_true hfit
    cases base with
    | none =>
      simp only at h
      cases xs with
      | cons _ _ => simp at h
      | nil =>
        simp at h
        obtain ⟨rfl, rfl⟩ := h
        simp [conc] at hs; subst hs
        exact ⟨m, w, .slice none (len + n) cap, append_room hu hkind hi hlenr hnew' hle rfl, by simp [conc], hr, Grow.refl m H⟩
    | some p =>
      obtain ⟨b, off⟩ := p
      simp only at h
      cases hst : storeN H b (off + len * k) xs with
      | none => simp [hst] at h
      | some H1 =>
        simp [hst] at h
        obtain ⟨rfl, rfl⟩ := h
        obtain ⟨y, hy, rfl⟩ := conc_sl hs
        obtain ⟨w', h1, h2, h3⟩ := run_storeN hr hst hy hcn
        refine ⟨m, w', _, append_room hu hkind hi hlenr hnew' (by omega) ?_, by simp [conc, hy], h2, storeN_grow hst hy h3⟩
        simp only [addr_add, hsz]
        rw [Nat.add_assoc]
        exact h1
  | false =>
    simp only [hfit] at h
    have hgt : cap < len + n := by
      rcases Nat.lt_or_ge cap (len + n) with h | h
      · exact h
      · rw [Nat.ble_eq_true_of_le h] at hfit; cases hfit
    cases hz : zeroOf P e with
    | none => simp [hz] at h
    | some z =>
    simp only [hz] at h
    cases hb : (lenEq z.cells k && allOne xs && Nat.ble ((2 * (len + n)) * kb) 281474976710656 && Nat.ble (len + n) 9223372036854775807) with
    | false => simp [hb] at h
    | true =>
    simp only [hb] at h
    simp only [Bool.and_eq_true] at hb
    obtain ⟨⟨⟨b1, b2⟩, b3⟩, b4⟩ := hb
    have hzl := (lenEq_iff _ _).1 b1
    have hfit2 := Nat.le_of_ble_eq_true b3
    have h63 := Nat.le_of_ble_eq_true b4
    obtain ⟨zu, hzu, hzc⟩ := zeroOf_info (m := m) hi hz
    have hzs : zu.cells.size = k := by have := concL_length (cells_conc hzc); simp at this; omega
    have hrd : HR P w0 m H w.drew := hr.drew _
    obtain ⟨newD, hnewD, hcnD, _⟩ := acells_run hrd hsize hc hxc
    have : newD = new := by rw [hcn] at hcnD; exact (Option.some.inj hcnD).symm
    subst this
    have hsrc : Src P i.size xT xc n newD w := ⟨hkind, hlenr, hnew', by rw [hsz]; exact hnewD, by rw [hsz]; exact hlen, one_of_conc hcn b2⟩
    -- a new row, whatever it was
    have grow : ∀ (capc : Nat) (b0 : Option Addr) (olds : List Value) (old : List AV) (Hk : AH) (fz' : Nat), sc = .slice b0 len capc → capc < len + n → concL m old = some olds → olds.length = len * k →
        (Builtin.firstCells i.size len (.slice b0 len capc)).run P w.drew = .ok olds.toArray w.drew → HR P w0 m Hk w → Hk.next = H.next → (∀ b, m b = none → b < H.next → Hk.get b = H.get b) →
        ∃ m' w' u, (Builtin.append_ #[sT, xT] tt #[sc, xc]).run P w = .ok u w' ∧ conc m' (.sl (some (H.next, 0)) (len + n) (len + n) true) = some u ∧ HR P w0 m' (Hk.new (.cells (old ++ xs) e true false fz')) w' ∧ Grow m m' H (Hk.new (.cells (old ++ xs) e true false fz')) := by
      intro capc b0 olds old Hk fz' hsc hlt hold hol hfc hrk hnext hsame
      subst hsc
      have hncap : Builtin.nextslicecap (len + n) capc * i.bytes ≤ 281474976710656 := by
        have h1 := nextslicecap_le hlt
        have h2 : Builtin.nextslicecap (len + n) capc * kb ≤ (2 * (len + n)) * kb := Nat.mul_le_mul_right _ h1
        rw [hby]; omega
      have hrun := run_append_grow_src w sT xT tt e i zu hu hi hzu b0 len capc olds hfc xc n newD hsrc hlt (by omega) hncap
      obtain ⟨δ, hδ⟩ := grownCap_ge w (len + n) capc e
      rw [hδ] at hrun
      have hfresh : m H.next = none := hr.fresh
      have hrkd : HR P w0 m (Hk.new (.cells (old ++ xs) e true false fz')) w.drew := (hrk.drew (w.drawn + 1)).newA _
      have hgetX : (Hk.new (.cells (old ++ xs) e true false fz')).get H.next = some (.cells (old ++ xs) e true false fz') := by rw [AH.get_new, hnext, if_pos rfl]
      have hX := hrkd.mapIn (b := H.next) (δ := δ) (obj := .cells ((olds ++ newD).toArray ++ Builtin.zeroCells zu.cells (len + n + δ - (len + n))) e) hgetX hfresh ?_
      · refine ⟨_, _, _, hrun, ?_, hX, ⟨Ext.upd hfresh _, by show H.next ≤ Hk.next + 1; omega, fun b hb hlt => ⟨?_, ?_⟩⟩⟩
        · simp [conc, upd_same]
        · rw [upd_other _ _ (by omega)]; exact hb
        · rw [AH.get_new, hnext, if_neg (by omega)]; exact hsame b hb hlt
      · have hext : Ext m (upd m H.next ⟨w.drew.heap.size, 0, δ⟩) := Ext.upd hfresh _
        have hcc := concL_mono hext _ _ (concL_append hold hcn)
        refine ⟨(olds ++ newD).toArray ++ Builtin.zeroCells zu.cells (len + n + δ - (len + n)), (0, 0), Array.getElem?_push_size, fun j y hj => ?_, fun _ => .inr rfl, fun _ => ⟨k, hsize, ?_⟩, fun e => (by cases e)⟩
        · obtain ⟨u, hu', hc'⟩ := concL_get hcc _ _ hj
          refine ⟨u, ?_, hc'⟩
          have hjl : j < (olds ++ newD).length := (List.getElem?_eq_some_iff.1 hu').1
          rw [Nat.zero_add, Array.getElem?_append_left (by simpa using hjl)]
          simpa using hu'
        · have ho := concL_length hold
          simp [Builtin.zeroCells, hzs]
          omega
    cases base with
    | none =>
      simp only at h
      cases len with
      | succ len => simp at h
      | zero =>
        simp at h
        obtain ⟨rfl, rfl⟩ := h
        simp [conc] at hs; subst hs
        have := grow cap none [] [] H 0 rfl hgt rfl (by simp) (by simp [Builtin.firstCells]) hr rfl (fun _ _ _ => rfl)
        simpa using this
    | some p =>
      obtain ⟨b, off⟩ := p
      simp only at h
      obtain ⟨y, hy, rfl⟩ := conc_sl hs
      cases hg : H.get b with
      | none => simp [hg] at h
      | some o => cases o with
        | map _ => simp [hg] at h
        | strIter _ _ => simp [hg] at h
        | loop _ _ _ _ _ _ _ _ _ => simp [hg] at h
        | deferred _ => simp [hg] at h
        | cells vs e' bs ro fz =>
          simp only [hg] at h
          cases ht : takeN (len * k) (dropN off vs) with
          | none => simp [ht] at h
          | some old =>
            simp only [ht] at h
            have hld : loadN H b off (len * k) = some old := by
              unfold loadN
              split
              · rename_i h0; rw [h0] at ht; simpa [takeN] using ht
              · simp [hg, ht]
            obtain ⟨olds, h1, h2, h3⟩ := run_loadN hrd hld hy
            have hfc : ∀ capc, (Builtin.firstCells i.size len (.slice (some ⟨y.c, y.off + off, none⟩) len capc)).run P w.drew = .ok olds.toArray w.drew := fun capc => by
              simp only [Builtin.firstCells, hsz]; exact h1
            cases slack with
            | false =>
              simp at h
              obtain ⟨rfl, rfl⟩ := h
              exact grow _ _ olds old H 0 rfl (by simp; exact hgt) h2 h3 (hfc _) hr rfl (fun _ _ _ => rfl)
            | true =>
              simp only at h
              cases hb2 : (bs && !ro && Nat.beq e' e && Nat.beq (off + cap * k) vs.length && Nat.ble fz (off + len * k)) with
              | false => simp [hb2] at h
              | true =>
                simp [hb2] at h
                obtain ⟨rfl, rfl⟩ := h
                simp only [Bool.and_eq_true, Bool.not_eq_true'] at hb2
                obtain ⟨⟨⟨⟨c1, c2⟩, c3⟩, c4⟩, c5⟩ := hb2
                subst c1; subst c2
                have c3 := Nat.eq_of_beq_eq_true c3
                subst c3
                have c4 := Nat.eq_of_beq_eq_true c4
                have c5 := Nat.le_of_ble_eq_true c5
                simp only [cond_true]
                by_cases hroom : len + n ≤ cap + y.δ
                · -- in its place
                  obtain ⟨cs, fr, g1, g2, g3, g4⟩ := hr.objs b _ y hg hy
                  obtain ⟨size', g5, g6⟩ := g4.1 rfl
                  rw [hsize] at g5; cases g5
                  have hmul : (len + n) * k ≤ (cap + y.δ) * k := Nat.mul_le_mul_right _ hroom
                  rw [Nat.add_mul, Nat.add_mul] at hmul
                  have hsz' : y.off + (off + len * k) + newD.length ≤ cs.size := by omega
                  have hst := run_storeRow (P := P) newD (y.off + (off + len * k)) 0 cs w g1 (by simpa using hsz') (one_of_conc hcn b2) (fun j a b' => by
                    have := free_above (g3 rfl) (j - y.off) (by omega)
                    rwa [show y.off + (j - y.off) = j by omega] at this)
                  have hrun := append_room (ty := tt) (w := w) hu hkind hi (b := some ⟨y.c, y.off + off, none⟩) (len := len) (cap := cap + y.δ) hlenr hnew' hroom (by
                    simp only [addr_add, hsz]
                    rw [Nat.add_assoc]
                    exact hst)
                  have hfresh : m H.next = none := hr.fresh
                  have hbl := hr.low b y hy
                  have hX := hr.inPlace (o' := .cells (old ++ xs) e' true false (fz - off)) (off := off) (δ := cap + y.δ - (len + n)) (obj := .cells (layArr cs (y.off + (off + len * k) + 0) newD) e' fr) hg rfl hy ?_
                  · refine ⟨_, _, _, hrun, ?_, hX, ⟨Ext.upd hfresh _, by show H.next ≤ H.next + 1; omega, fun q hq hlt => ⟨?_, ?_⟩⟩⟩
                    · simp [conc, upd_same]; omega
                    · rw [upd_other _ _ (by omega)]; exact hq
                    · rw [AH.get_new, AH.get_kill]
                      have : q ≠ b := by intro e; subst e; rw [hy] at hq; cases hq
                      show (if q = H.next then _ else _) = _
                      rw [if_neg (by omega), if_neg this]
                  · have hext : Ext m (upd m H.next ⟨y.c, y.off + off, cap + y.δ - (len + n)⟩) := Ext.upd hfresh _
                    have hyc := hr.bound _ _ hy
                    have hol := concL_length h2
                    refine ⟨layArr cs (y.off + (off + len * k) + 0) newD, fr, Array.getElem?_setIfInBounds_self_of_lt hyc, fun j v hj => ?_, fun _ => ?_, fun _ => ⟨k, hsize, ?_⟩, fun e => (by cases e)⟩
                    · rw [layArr_get newD cs _ (by simpa using hsz')]
                      dsimp only
                      by_cases hjl : j < old.length
                      · rw [if_neg (by omega)]
                        rw [List.getElem?_append_left hjl] at hj
                        obtain ⟨q1, q2⟩ := takeN_get _ _ _ ht
                        have : vs[off + j]? = some v := by rw [← dropN_get, ← q2 j (by omega)]; exact hj
                        obtain ⟨u, hu', hc'⟩ := g2 (off + j) v this
                        exact ⟨u, by show cs[y.off + off + j]? = some u; rw [Nat.add_assoc]; exact hu', conc_mono hext _ _ hc'⟩
                      · rw [List.getElem?_append_right (by omega)] at hj
                        obtain ⟨u, hu', hc'⟩ := concL_get hcn _ _ hj
                        have hjb : j - old.length < newD.length := (List.getElem?_eq_some_iff.1 hu').1
                        refine ⟨u, ?_, conc_mono hext _ _ hc'⟩
                        show (if y.off + (off + len * k) + 0 ≤ y.off + off + j ∧ y.off + off + j < y.off + (off + len * k) + 0 + newD.length then newD[y.off + off + j - (y.off + (off + len * k) + 0)]? else cs[y.off + off + j]?) = some u
                        rw [if_pos (by omega), show y.off + off + j - (y.off + (off + len * k) + 0) = j - old.length by omega]
                        exact hu'
                    · rcases g3 rfl with q | q
                      · left; show fr.2 ≤ y.off + off + (fz - off); omega
                      · exact .inr q
                    · rw [layArr_size]
                      have hmul2 : (cap + y.δ - (len + n)) * k + (len + n) * k = (cap + y.δ) * k := by rw [← Nat.add_mul]; congr 1; omega
                      rw [Nat.add_mul, Nat.add_mul] at hmul2
                      simp
                      omega
                · exact grow _ _ olds old (H.kill b) (fz - off) rfl (by simp only [cond_true]; omega) h2 h3 (hfc _) (hr.kill b) rfl (fun q hq _ => by
                    rw [AH.get_kill, if_neg (by intro e; subst e; rw [hy] at hq; cases hq)])
end
end Go.AE
