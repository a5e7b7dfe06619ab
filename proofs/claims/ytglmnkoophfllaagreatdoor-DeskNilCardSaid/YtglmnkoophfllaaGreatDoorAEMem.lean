/-
  The abstract machine's memory against the model's: loads, stores, what is made.
-/
import Derived.Test.YtglmnkoophfllaaGreatDoorAERel
namespace Go.AE
open Go

theorem addr_add (c o n : Nat) : (⟨c, o, none⟩ : Addr).add n = ⟨c, o + n, none⟩ := by
  unfold Addr.add
  split
  · rename_i h; subst h; rfl
  · rfl

theorem cell_row {w : World} {c : Nat} {cs : Array Value} {e : TypeId} {fr : Nat × Nat} (h : w.heap[c]? = some (.cells cs e fr)) (j : Nat) :
    w.cell? ⟨c, j, none⟩ = cs[j]? := by
  simp [World.cell?, h]

theorem frozen_row {w : World} {c : Nat} {cs : Array Value} {e : TypeId} {fr : Nat × Nat} (h : w.heap[c]? = some (.cells cs e fr)) (j : Nat) :
    w.frozen? ⟨c, j, none⟩ = (decide (fr.1 ≤ j) && decide (j < fr.2)) := by
  obtain ⟨lo, hi⟩ := fr
  simp [World.frozen?, h]

/-! ### Lists -/
theorem takeN_get : ∀ (n : Nat) (l r : List AV), takeN n l = some r → r.length = n ∧ ∀ i, i < n → r[i]? = l[i]?
  | 0, l, r, h => by simp [takeN] at h; subst h; exact ⟨rfl, fun i hi => absurd hi (Nat.not_lt_zero _)⟩
  | n + 1, [], r, h => by simp [takeN] at h
  | n + 1, x :: xs, r, h => by
    simp only [takeN] at h
    cases ht : takeN n xs with
    | none => simp [ht] at h
    | some r' =>
      simp [ht] at h
      subst h
      obtain ⟨h1, h2⟩ := takeN_get n xs r' ht
      refine ⟨by simp [h1], fun i hi => ?_⟩
      cases i with
      | zero => rfl
      | succ i => simpa using h2 i (by omega)
theorem dropN_get : ∀ (n : Nat) (l : List AV) (i : Nat), (dropN n l)[i]? = l[n + i]?
  | 0, l, i => by simp [dropN]
  | n + 1, [], i => by simp [dropN]
  | n + 1, x :: xs, i => by
    simp only [dropN]
    rw [dropN_get n xs i, show n + 1 + i = (n + i) + 1 by omega]
    simp

theorem layAt_get : ∀ (n : Nat) (xs l r : List AV), layAt n xs l = some r → r.length = l.length ∧ n + xs.length ≤ l.length ∧ ∀ i, r[i]? = if n ≤ i ∧ i < n + xs.length then xs[i - n]? else l[i]?
  | 0, [], l, r, h => by
    simp [layAt] at h; subst h
    refine ⟨rfl, by simp, fun i => ?_⟩
    rw [if_neg (by simp)]
  | 0, x :: xs, [], r, h => by simp [layAt] at h
  | 0, x :: xs, y :: l, r, h => by
    simp only [layAt] at h
    cases ht : layAt 0 xs l with
    | none => simp [ht] at h
    | some r' =>
      simp [ht] at h
      subst h
      obtain ⟨h1, h2, h3⟩ := layAt_get 0 xs l r' ht
      refine ⟨by simp [h1], by simp at h2 ⊢; omega, fun i => ?_⟩
      cases i with
      | zero => simp
      | succ i =>
        have := h3 i
        simp only [Nat.zero_add, Nat.zero_le, true_and, Nat.sub_zero] at this
        simp only [List.getElem?_cons_succ, this, Nat.zero_add, Nat.zero_le, true_and, Nat.sub_zero, List.length_cons, Nat.add_lt_add_iff_right]
  | n + 1, xs, [], r, h => by
    cases xs <;> simp [layAt] at h
  | n + 1, xs, y :: l, r, h => by
    simp only [layAt] at h
    cases ht : layAt n xs l with
    | none => simp [ht] at h
    | some r' =>
      simp [ht] at h
      subst h
      obtain ⟨h1, h2, h3⟩ := layAt_get n xs l r' ht
      refine ⟨by simp [h1], by simp; omega, fun i => ?_⟩
      cases i with
      | zero => rw [if_neg (by omega)]; rfl
      | succ i =>
        simp only [List.getElem?_cons_succ, h3 i]
        by_cases hc : n ≤ i ∧ i < n + xs.length
        · rw [if_pos hc, if_pos (by omega), show i + 1 - (n + 1) = i - n by omega]
        · rw [if_neg hc, if_neg (by omega)]

theorem allOne_mem : ∀ (l : List AV), allOne l = true → ∀ x ∈ l, x.one = true
  | [], _, x, hx => by simp at hx
  | y :: l, h, x, hx => by
    simp only [allOne] at h
    cases hy : y.one with
    | false => simp [hy] at h
    | true =>
      simp [hy] at h
      rcases List.mem_cons.1 hx with rfl | hx
      · exact hy
      · exact allOne_mem l h x hx

theorem lenEq_iff : ∀ (l : List AV) (n : Nat), lenEq l n = true ↔ l.length = n
  | [], 0 => by simp [lenEq]
  | [], n + 1 => by simp [lenEq]
  | _ :: l, 0 => by simp [lenEq]
  | _ :: l, n + 1 => by simp [lenEq, lenEq_iff l n]

/-- What stands in one cell there stands in one cell here. -/
theorem one_conc {m : MP} {v : AV} {u : Value} (h : conc m v = some u) (h1 : v.one = true) : u.oneCell' = true := by
  cases v with
  | agg _ => simp [AV.one] at h1
  | tup _ => simp [AV.one] at h1
  | und => simp [AV.one] at h1
  | _ =>
    first
      | (simp only [conc] at h; cases h; rfl)
      | (simp only [conc] at h; split at h <;> first | (cases h; rfl) | (simp at h; done))
      | (unfold conc at h; split at h <;> simp_all <;> (repeat' split at h) <;> first | (cases h; rfl) | (simp_all; done) | (subst h; rfl))

/-! ### Loads -/
theorem loadN_cells {P : Program} {w0 : World} {m : MP} {H : AH} {w : World} (hr : HR P w0 m H w) {b off n : Nat} {l : List AV} {x : MB}
    (h : loadN H b off n = some l) (hm : m b = some x) :
    ∃ us, concL m l = some us ∧ us.length = n ∧ ∀ (j : Nat) (v : Value), us[j]? = some v → w.cell? ⟨x.c, x.off + off + j, none⟩ = some v := by
  cases n with
  | zero =>
    simp [loadN] at h; subst h
    exact ⟨[], rfl, rfl, fun j v e => by simp at e⟩
  | succ n =>
    simp only [loadN] at h
    cases ho : H.get b with
    | none => simp [ho] at h
    | some o => cases o with
      | cells vs e s ro fz =>
        simp only [ho] at h
        obtain ⟨cs, fr, h1, h2, _, _⟩ := hr.objs b _ x ho hm
        obtain ⟨hl, hg⟩ := takeN_get _ _ _ h
        have hv : ∀ i, i < n + 1 → l[i]? = vs[off + i]? := fun i hi => (hg i hi).trans (dropN_get off vs i)
        have hu : ∀ (i : Nat) (v : AV), l[i]? = some v → ∃ u, cs[x.off + (off + i)]? = some u ∧ conc m v = some u := fun i v e =>
          h2 (off + i) v (by rw [← hv i (by have := (List.getElem?_eq_some_iff.1 e).1; omega)]; exact e)
        refine ⟨(List.range (n + 1)).map fun j => (cs[x.off + off + j]?).getD undef, ?_, by simp, fun j v e => ?_⟩
        · refine concL_of_get (by simp [hl]) fun i a e => ?_
          obtain ⟨u, hu', hc⟩ := hu i a e
          have hi : i < n + 1 := by have := (List.getElem?_eq_some_iff.1 e).1; omega
          refine ⟨u, ?_, hc⟩
          simp [hi, show x.off + off + i = x.off + (off + i) by omega, hu']
        · rw [cell_row h1]
          have hj : j < n + 1 := by have := (List.getElem?_eq_some_iff.1 e).1; simpa using this
          have hj' : j < l.length := by omega
          obtain ⟨u, hu', _⟩ := hu j _ (List.getElem?_eq_getElem hj')
          rw [← Nat.add_assoc] at hu'
          rw [hu']
          simp [hj, hu'] at e
          simp [e]
      | map _ => simp [ho] at h
      | strIter _ _ => simp [ho] at h
      | loop _ _ _ _ _ _ _ _ _ => simp [ho] at h
      | deferred _ => simp [ho] at h

theorem run_loadN {P : Program} {w0 : World} {m : MP} {H : AH} {w : World} (hr : HR P w0 m H w) {b off n : Nat} {l : List AV} {x : MB}
    (h : loadN H b off n = some l) (hm : m b = some x) :
    ∃ us, (loadCells ⟨x.c, x.off + off, none⟩ n).run P w = .ok us.toArray w ∧ concL m l = some us ∧ us.length = n := by
  obtain ⟨us, h1, h2, h3⟩ := loadN_cells hr h hm
  refine ⟨us, ?_, h1, h2⟩
  rw [← h2]
  exact run_loadCells_list w _ us fun j v e => by rw [addr_add]; exact h3 j v e

theorem run_underlying' {P : Program} {t : TypeId} {d : TypeDesc} (h : P.underlying t = some d) (w : World) : (underlying t).run P w = .ok d w := by
  simp [underlying, h]
theorem run_isAgg {P : Program} {t : TypeId} {b : Bool} (h : aggT P t = some b) (w : World) : (isAgg t).run P w = .ok b w := by
  unfold aggT at h
  split at h
  · rename_i hu; cases h; simp [isAgg, run_underlying' hu]
  · rename_i hu; cases h; simp [isAgg, run_underlying' hu]
  · rename_i d h1 h2 hu
    cases h
    simp only [isAgg, Sem.run_bind, run_underlying' hu, Result.andThen_ok]
    cases d <;> first | rfl | exact absurd rfl (h1 _) | exact absurd rfl (h2 _ _)
  · simp at h
theorem run_sizeOf {P : Program} {t : TypeId} {n : Nat} (h : sizeOfT P t = some n) (w : World) : (sizeOf t).run P w = .ok n w := by
  unfold sizeOfT at h
  cases hi : P.info? t with
  | none => simp [hi] at h
  | some i => simp [hi] at h; simp [sizeOf, typeInfo, hi, h]

theorem run_loadT {P : Program} {w0 : World} {m : MP} {H : AH} {w : World} (hr : HR P w0 m H w) {t : TypeId} {b off : Nat} {v : AV} {x : MB}
    (h : loadT P H t b off = some v) (hm : m b = some x) : ∃ u, (loadVar t ⟨x.c, x.off + off, none⟩).run P w = .ok u w ∧ conc m v = some u := by
  unfold loadT at h
  cases ha : aggT P t with
  | none => simp [ha] at h
  | some bb => cases bb with
    | true =>
      simp only [ha] at h
      cases hs : sizeOfT P t with
      | none => simp [hs] at h
      | some n =>
        simp only [hs] at h
        cases hl : loadN H b off n with
        | none => simp [hl] at h
        | some l =>
          simp [hl] at h; subst h
          obtain ⟨us, h1, h2, _⟩ := run_loadN hr hl hm
          exact ⟨.agg us.toArray, by simp [loadVar, run_isAgg ha, run_sizeOf hs, h1], conc_agg.2 ⟨us, h2, rfl⟩⟩
    | false =>
      simp only [ha] at h
      cases hl : loadN H b off 1 with
      | none => simp [hl] at h
      | some l =>
        rw [hl] at h
        match l, hl, h with
        | [v'], hl, h =>
          simp at h; subst h
          obtain ⟨us, h2, h3, h1⟩ := loadN_cells hr hl hm
          obtain ⟨u, us', rfl, h4, h5⟩ := concL_cons.1 h2
          refine ⟨u, ?_, h4⟩
          have hc := h1 0 u rfl
          simp only [Nat.add_zero] at hc
          simp only [loadVar, Sem.run_bind, run_isAgg ha, Result.andThen_ok, Bool.false_eq_true, if_false, run_load, hc]
        | [], hl, h => simp at h
        | _ :: _ :: _, hl, h => simp at h

/-! ### Stores -/
/-- The values laid over a row. -/
def layArr (cs : Array Value) : Nat → List Value → Array Value
  | _, [] => cs
  | n, v :: vs => layArr (cs.setIfInBounds n v) (n + 1) vs
theorem layArr_size : ∀ (us : List Value) (cs : Array Value) (n : Nat), (layArr cs n us).size = cs.size
  | [], cs, n => rfl
  | v :: vs, cs, n => by simp [layArr, layArr_size vs]
theorem layArr_get : ∀ (us : List Value) (cs : Array Value) (n : Nat), n + us.length ≤ cs.size → ∀ i, (layArr cs n us)[i]? = if n ≤ i ∧ i < n + us.length then us[i - n]? else cs[i]?
  | [], cs, n, h, i => by rw [if_neg (by simp)]; rfl
  | v :: vs, cs, n, h, i => by
    simp only [layArr]
    simp at h
    rw [layArr_get vs _ (n + 1) (by simp; omega) i]
    by_cases h1 : n + 1 ≤ i ∧ i < n + 1 + vs.length
    · rw [if_pos h1, if_pos (by simp; omega), show i - n = (i - (n + 1)) + 1 by omega]; simp
    · rw [if_neg h1]
      by_cases h2 : i = n
      · subst h2
        rw [if_pos (by simp)]
        simp [show i < cs.size by omega]
      · rw [if_neg (by simp; omega), Array.getElem?_setIfInBounds_ne (by omega)]

theorem setCell_heap {w : World} {c j : Nat} {cs : Array Value} {e : TypeId} {fr : Nat × Nat} (h : w.heap[c]? = some (.cells cs e fr)) (v : Value) :
    w.setCell ⟨c, j, none⟩ v = { w with heap := w.heap.setIfInBounds c (.cells (cs.setIfInBounds j v) e fr) } := by
  obtain ⟨hlt, hc⟩ := Array.getElem?_eq_some_iff.1 h
  simp only [World.setCell]
  congr 1
  apply Array.ext
  · simp
  · intro i h1 h2
    simp only [Array.size_modify] at h1
    by_cases e : i = c
    · subst e
      simp [Array.getElem_modify, hc]
    · rw [Array.getElem_modify, if_neg (by omega), Array.getElem_setIfInBounds, if_neg (by omega)]

theorem run_storeRow {P : Program} {c : Nat} {e : TypeId} {fr : Nat × Nat} : ∀ (us : List Value) (start i : Nat) (cs : Array Value) (w : World),
    w.heap[c]? = some (.cells cs e fr) → start + i + us.length ≤ cs.size → (∀ v ∈ us, v.oneCell' = true) →
    (∀ j, start + i ≤ j → j < start + i + us.length → ¬ (fr.1 ≤ j ∧ j < fr.2)) →
    (storeCells ⟨c, start, none⟩ us i).run P w = .ok () { w with heap := w.heap.setIfInBounds c (.cells (layArr cs (start + i) us) e fr) }
  | [], start, i, cs, w, h, _, _, _ => by
    have : w.heap.setIfInBounds c (.cells cs e fr) = w.heap := by
      obtain ⟨hlt, hc⟩ := Array.getElem?_eq_some_iff.1 h
      apply Array.ext
      · simp
      · intro k h1 h2
        by_cases e : k = c
        · subst e; simp [hc]
        · rw [Array.getElem_setIfInBounds, if_neg (by omega)]
    simp [storeCells, layArr, this]
  | v :: vs, start, i, cs, w, h, hs, h1, hf => by
    simp only [List.length_cons] at hs hf
    have hlt : start + i < cs.size := by omega
    have hfz : w.frozen? ⟨c, start + i, none⟩ = false := by
      rw [frozen_row h]
      have := hf (start + i) (Nat.le_refl _) (by omega)
      cases hd : (decide (fr.1 ≤ start + i) && decide (start + i < fr.2))
      · rfl
      · simp at hd; exact absurd hd this
    have hst : (store ⟨c, start + i, none⟩ v).run P w = .ok () { w with heap := w.heap.setIfInBounds c (.cells (cs.setIfInBounds (start + i) v) e fr) } := by
      rw [run_store P w _ v .plain (h1 v (List.mem_cons_self ..)), cell_row h, Array.getElem?_eq_getElem hlt]
      simp only [hfz, Bool.false_eq_true, if_false]
      rw [setCell_heap h]
    obtain ⟨hclt, hc⟩ := Array.getElem?_eq_some_iff.1 h
    have h' : ({ w with heap := w.heap.setIfInBounds c (.cells (cs.setIfInBounds (start + i) v) e fr) } : World).heap[c]? = some (.cells (cs.setIfInBounds (start + i) v) e fr) := by
      simp [hclt]
    simp only [storeCells, Sem.run_bind, addr_add, hst, Result.andThen_ok]
    rw [run_storeRow vs start (i + 1) _ _ h' (by simp; omega) (fun v hv => h1 v (List.mem_cons_of_mem _ hv)) (fun j a b => hf j (by omega) (by omega))]
    simp [layArr, Nat.add_assoc]

theorem AH.get_put (H : AH) (b : Nat) (o : AObj) (k : Nat) : (H.put b o).get k = if k = b then some o else H.get k := by
  simp [AH.get, AH.put, T.get_set]
theorem AH.get_kill (H : AH) (b : Nat) (k : Nat) : (H.kill b).get k = if k = b then none else H.get k := by
  simp [AH.get, AH.kill, T.get_set]
theorem AH.get_new (H : AH) (o : AObj) (k : Nat) : (H.new o).get k = if k = H.next then some o else H.get k := by
  simp [AH.get, AH.new, T.get_set]

/-- One block of the model's turns into what the abstract one has turned into. -/
theorem HR.turn {P : Program} {w0 : World} {m : MP} {H : AH} {w : World} (hr : HR P w0 m H w) {b : Nat} {o o' : AObj} {x : MB} {obj : Obj}
    (ho : H.get b = some o) (hw : o.wr = true) (hm : m b = some x) (hn : OR P m o' x { w with heap := w.heap.setIfInBounds x.c obj }) :
    HR P w0 m (H.put b o') { w with heap := w.heap.setIfInBounds x.c obj } := by
  have hlow := hr.wr b o x ho hw hm
  refine ⟨fun b1 o1 x1 h1 h2 => ?_, fun b1 b2 o1 o2 x1 x2 h1 h2 h3 h4 hne => ?_, hr.low, fun b1 h1 => ?_, fun b1 x1 h1 => ?_, fun b1 o1 x1 h1 h2 h3 => ?_, by simpa using hr.grow, fun c hc => ?_, hr.tape, hr.os, hr.output⟩
  · rw [AH.get_put] at h1
    by_cases e : b1 = b
    · subst e
      rw [if_pos rfl] at h1
      cases h1
      rw [hm] at h2
      cases h2
      exact hn
    · rw [if_neg e] at h1
      have hne := hr.inj b1 b o1 o x1 x h1 ho h2 hm e
      refine OR.mono (Ext.refl m) ?_ (hr.objs b1 o1 x1 h1 h2)
      exact Array.getElem?_setIfInBounds_ne (fun h => hne h.symm)
  · have key : ∀ b o1, (H.put ‹Nat› o').get b = some o1 → True := fun _ _ _ => trivial
    rw [AH.get_put] at h1 h2
    by_cases e1 : b1 = b <;> by_cases e2 : b2 = b
    · exact absurd (e1.trans e2.symm) hne
    · rw [if_neg e2] at h2; subst e1; exact hr.inj b1 b2 o o2 x1 x2 ho h2 h3 h4 hne
    · rw [if_neg e1] at h1; subst e2; exact hr.inj b1 b2 o1 o x1 x2 h1 ho h3 h4 hne
    · rw [if_neg e1] at h1; rw [if_neg e2] at h2; exact hr.inj b1 b2 o1 o2 x1 x2 h1 h2 h3 h4 hne
  · rw [AH.get_put]
    have hb := hr.low b x hm
    have : b1 ≠ b := by intro e; subst e; exact absurd h1 (by simpa [AH.put] using hb)
    rw [if_neg this]
    exact hr.have_ b1 h1
  · simpa using hr.bound b1 x1 h1
  · rw [AH.get_put] at h1
    by_cases e : b1 = b
    · subst e
      rw [hm] at h3; cases h3
      exact hlow
    · rw [if_neg e] at h1
      exact hr.wr b1 o1 x1 h1 h2 h3
  · exact (Array.getElem?_setIfInBounds_ne (by omega)).trans (hr.keep c hc)

theorem run_storeN {P : Program} {w0 : World} {m : MP} {H H' : AH} {w : World} (hr : HR P w0 m H w) {b off : Nat} {xs : List AV} {us : List Value} {x : MB}
    (h : storeN H b off xs = some H') (hm : m b = some x) (hu : concL m xs = some us) :
    ∃ w', (storeCells ⟨x.c, x.off + off, none⟩ us).run P w = .ok () w' ∧ HR P w0 m H' w' ∧ H'.next = H.next := by
  cases xs with
  | nil =>
    simp [storeN] at h; subst h
    simp [concL_nil] at hu; subst hu
    exact ⟨w, by simp [storeCells], hr, rfl⟩
  | cons y ys =>
    simp only [storeN] at h
    cases ho : H.get b with
    | none => simp [ho] at h
    | some o => cases o with
      | cells vs e s ro fz =>
        cases ro with
        | true => simp [ho] at h
        | false =>
          simp only [ho] at h
          cases hc : (allOne (y :: ys) && Nat.ble fz off) with
          | false => simp [hc] at h
          | true =>
            simp only [hc] at h
            simp at hc
            obtain ⟨hall, hfz⟩ := hc
            cases hl : layAt off (y :: ys) vs with
            | none => simp [hl] at h
            | some vs' =>
              simp [hl] at h; subst h
              obtain ⟨hlen, hin, hget⟩ := layAt_get _ _ _ _ hl
              obtain ⟨cs, fr, h1, h2, h3, h4⟩ := hr.objs b _ x ho hm
              have hul := concL_length hu
              have hsz : x.off + off + us.length ≤ cs.size := by
                have hpos : 0 < (y :: ys).length := by simp
                have hlt : off + (y :: ys).length - 1 < vs.length := by omega
                obtain ⟨u, hu', _⟩ := h2 _ _ (List.getElem?_eq_getElem hlt)
                have := (Array.getElem?_eq_some_iff.1 hu').1
                omega
              have h1c : ∀ v ∈ us, v.oneCell' = true := by
                intro v hv
                obtain ⟨i, hi⟩ := List.getElem?_of_mem hv
                have hi' : i < (y :: ys).length := by have := (List.getElem?_eq_some_iff.1 hi).1; omega
                obtain ⟨v', hv', hc'⟩ := concL_get hu i _ (List.getElem?_eq_getElem hi')
                rw [hi] at hv'; cases hv'
                exact one_conc hc' (allOne_mem _ hall _ (List.getElem_mem hi'))
              have hrun := run_storeRow (P := P) us (x.off + off) 0 cs w h1 (by simpa using hsz) h1c (fun j a b => by
                have := free_above (h3 rfl) (j - x.off) (by omega)
                rwa [show x.off + (j - x.off) = j by omega] at this)
              refine ⟨_, hrun, hr.turn ho rfl hm ⟨layArr cs (x.off + off + 0) us, fr, ?_, ?_, fun hro => h3 hro, ?_⟩, rfl⟩
              · have := hr.bound b x hm
                simp [this]
              · intro i v hv
                rw [hget i] at hv
                rw [layArr_get us cs _ (by simpa using hsz)]
                by_cases hcase : off ≤ i ∧ i < off + (y :: ys).length
                · rw [if_pos hcase] at hv
                  obtain ⟨u, hu', hc'⟩ := concL_get hu _ _ hv
                  refine ⟨u, ?_, hc'⟩
                  rw [if_pos (by omega), show x.off + i - (x.off + off + 0) = i - off by omega]
                  exact hu'
                · rw [if_neg hcase] at hv
                  rw [if_neg (by omega)]
                  exact h2 i v hv
              · refine ⟨fun hs => ?_, fun hs => ?_⟩
                · obtain ⟨size, ha, hb⟩ := h4.1 hs
                  exact ⟨size, ha, by rw [layArr_size, hlen]; exact hb⟩
                · obtain ⟨ha, hb⟩ := h4.2 hs
                  exact ⟨ha, by rw [layArr_size, hlen]; exact hb⟩
      | map _ => simp [ho] at h
      | strIter _ _ => simp [ho] at h
      | loop _ _ _ _ _ _ _ _ _ => simp [ho] at h
      | deferred _ => simp [ho] at h

theorem run_storeT {P : Program} {w0 : World} {m : MP} {H H' : AH} {w : World} (hr : HR P w0 m H w) {t : TypeId} {b off : Nat} {v : AV} {u : Value} {x : MB}
    (h : storeT P H t b off v = some H') (hm : m b = some x) (hu : conc m v = some u) :
    ∃ w', (storeVar t ⟨x.c, x.off + off, none⟩ u).run P w = .ok () w' ∧ HR P w0 m H' w' ∧ H'.next = H.next := by
  unfold storeT at h
  cases hs : sizeOfT P t with
  | none => simp [hs] at h
  | some n =>
    simp only [hs] at h
    cases hl : lenEq v.cells n with
    | false => simp [hl] at h
    | true =>
      simp only [hl] at h
      have hlen := (lenEq_iff _ _).1 hl
      have hcc := cells_conc hu
      obtain ⟨w', h1, h2, h3⟩ := run_storeN hr h hm hcc
      refine ⟨w', ?_, h2, h3⟩
      have : u.cells.size = n := by have := concL_length hcc; simp at this; omega
      simp [storeVar, run_sizeOf hs, this, h1]

/-! ### What is made -/
def upd (m : MP) (b : Nat) (x : MB) : MP := fun k => if k = b then some x else m k
theorem upd_same (m : MP) (b : Nat) (x : MB) : upd m b x b = some x := by simp [upd]
theorem upd_other (m : MP) {b k : Nat} (x : MB) (h : k ≠ b) : upd m b x k = m k := by simp [upd, h]
theorem Ext.upd {m : MP} {b : Nat} (h : m b = none) (x : MB) : Ext m (upd m b x) := fun k y e => by
  by_cases hk : k = b
  · subst hk; rw [h] at e; cases e
  · rw [upd_other m x hk]; exact e

/-- Made there, not yet here. -/
theorem HR.newA {P : Program} {w0 : World} {m : MP} {H : AH} {w : World} (hr : HR P w0 m H w) (o : AObj) : HR P w0 m (H.new o) w := by
  have hn : m H.next = none := by
    cases h : m H.next with
    | none => rfl
    | some x => exact absurd (hr.low _ _ h) (Nat.lt_irrefl _)
  have key : ∀ b o1 x1, (H.new o).get b = some o1 → m b = some x1 → H.get b = some o1 := fun b o1 x1 h1 h2 => by
    rw [AH.get_new] at h1
    by_cases e : b = H.next
    · subst e; rw [hn] at h2; cases h2
    · rwa [if_neg e] at h1
  refine ⟨fun b1 o1 x1 h1 h2 => hr.objs b1 o1 x1 (key _ _ _ h1 h2) h2, fun b1 b2 o1 o2 x1 x2 h1 h2 h3 h4 hne => hr.inj b1 b2 o1 o2 x1 x2 (key _ _ _ h1 h3) (key _ _ _ h2 h4) h3 h4 hne,
    fun b x h => Nat.lt_succ_of_lt (hr.low b x h), fun b h => ?_, hr.bound, fun b1 o1 x1 h1 h2 h3 => hr.wr b1 o1 x1 (key _ _ _ h1 h3) h2 h3, hr.grow, hr.keep, hr.tape, hr.os, hr.output⟩
  rw [AH.get_new]
  have hb : H.next + 1 ≤ b := h
  rw [if_neg (by omega)]
  exact hr.have_ b (by omega)

/-- What was made there is made here. -/
theorem HR.mapIn {P : Program} {w0 : World} {m : MP} {H : AH} {w : World} (hr : HR P w0 m H w) {b : Nat} {o : AObj} {obj : Obj} {δ : Nat}
    (hb : H.get b = some o) (hm : m b = none) (ho : OR P (upd m b ⟨w.heap.size, 0, δ⟩) o ⟨w.heap.size, 0, δ⟩ { w with heap := w.heap.push obj }) :
    HR P w0 (upd m b ⟨w.heap.size, 0, δ⟩) H { w with heap := w.heap.push obj } := by
  have hext : Ext m (upd m b ⟨w.heap.size, 0, δ⟩) := Ext.upd hm _
  have hlt : b < H.next := by
    rcases Nat.lt_or_ge b H.next with h | h
    · exact h
    · rw [hr.have_ b h] at hb; cases hb
  have old : ∀ k x, m k = some x → x.c < w.heap.size := hr.bound
  have hpush : ∀ c, c < w.heap.size → (w.heap.push obj)[c]? = w.heap[c]? := fun c hc => by
    rw [Array.getElem?_push, if_neg (by omega)]
  refine ⟨fun b1 o1 x1 h1 h2 => ?_, fun b1 b2 o1 o2 x1 x2 h1 h2 h3 h4 hne => ?_, fun k x h => ?_, hr.have_, fun k x h => ?_, fun b1 o1 x1 h1 h2 h3 => ?_, by simp; exact Nat.le_succ_of_le hr.grow, fun c hc => ?_, hr.tape, hr.os, hr.output⟩
  · by_cases e : b1 = b
    · subst e
      rw [hb] at h1; cases h1
      rw [upd_same] at h2; cases h2
      exact ho
    · rw [upd_other _ _ e] at h2
      exact OR.mono hext (hpush _ (old _ _ h2)) (hr.objs b1 o1 x1 h1 h2)
  · by_cases e1 : b1 = b <;> by_cases e2 : b2 = b
    · exact absurd (e1.trans e2.symm) hne
    · subst e1
      rw [upd_same] at h3; cases h3
      rw [upd_other _ _ e2] at h4
      have := old _ _ h4
      intro h; simp at h; omega
    · subst e2
      rw [upd_same] at h4; cases h4
      rw [upd_other _ _ e1] at h3
      have := old _ _ h3
      intro h; simp at h; omega
    · rw [upd_other _ _ e1] at h3
      rw [upd_other _ _ e2] at h4
      exact hr.inj b1 b2 o1 o2 x1 x2 h1 h2 h3 h4 hne
  · by_cases e : k = b
    · subst e; exact hlt
    · rw [upd_other _ _ e] at h; exact hr.low k x h
  · by_cases e : k = b
    · subst e; rw [upd_same] at h; cases h; simp
    · rw [upd_other _ _ e] at h; have := old _ _ h; simp; omega
  · by_cases e : b1 = b
    · subst e; rw [upd_same] at h3; cases h3; exact hr.grow
    · rw [upd_other _ _ e] at h3; exact hr.wr b1 o1 x1 h1 h2 h3
  · exact (hpush c (by have := hr.grow; omega)).trans (hr.keep c hc)

theorem HR.fresh {P : Program} {w0 : World} {m : MP} {H : AH} {w : World} (hr : HR P w0 m H w) : m H.next = none := by
  cases h : m H.next with
  | none => rfl
  | some x => exact absurd (hr.low _ _ h) (Nat.lt_irrefl _)

/-- The drawn number turns; nothing else. -/
theorem HR.drew {P : Program} {w0 : World} {m : MP} {H : AH} {w : World} (hr : HR P w0 m H w) (n : Nat) : HR P w0 m H { w with drawn := n } := by
  refine ⟨fun b o x h1 h2 => OR.mono (Ext.refl m) rfl (hr.objs b o x h1 h2), hr.inj, hr.low, hr.have_, hr.bound, hr.wr, hr.grow, hr.keep, hr.tape, hr.os, hr.output⟩

end Go.AE
