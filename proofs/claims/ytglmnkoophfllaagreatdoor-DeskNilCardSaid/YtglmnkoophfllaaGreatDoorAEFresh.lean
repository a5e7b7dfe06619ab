/-
  The abstract machine's operations that make an object, against the model's.
-/
import Derived.Test.YtglmnkoophfllaaGreatDoorAEPure3
import Derived.IntWalk
namespace Go.AE
open Go

section
variable {P : Program} {w0 : World} {m : MP} {H : AH} {w : World} {a : Act} {t : T AV}

theorem repeatL_length (xs : List AV) : ∀ n, (repeatL xs n).length = n * xs.length
  | 0 => by simp [repeatL]
  | n + 1 => by simp [repeatL, repeatL_length xs n, Nat.succ_mul, Nat.add_comm]
theorem repeatL_get (xs : List AV) : ∀ (n i : Nat), i < n * xs.length → (repeatL xs n)[i]? = xs[i % xs.length]?
  | 0, i, h => by simp at h
  | n + 1, i, h => by
    simp only [repeatL]
    rw [Nat.succ_mul] at h
    by_cases hi : i < xs.length
    · rw [List.getElem?_append_left hi, Nat.mod_eq_of_lt hi]
    · rw [List.getElem?_append_right (by omega), repeatL_get xs n _ (by omega)]
      congr 1
      exact (Nat.mod_eq_sub_mod (by omega)).symm

theorem concL_repeat {zc : List AV} {zu : Array Value} {size : Nat} (hz : concL m zc = some zu.toList) (hs : zc.length = size) (n : Nat) :
    concL m (repeatL zc n) = some ((Array.range (n * size)).map (zu[· % zu.size]!)).toList := by
  have hl := concL_length hz
  simp at hl
  refine concL_of_get (by simp [repeatL_length, hs]) fun i x e => ?_
  have hi : i < n * size := by have := (List.getElem?_eq_some_iff.1 e).1; rw [repeatL_length, hs] at this; exact this
  rw [repeatL_get zc n i (by rw [hs]; exact hi)] at e
  obtain ⟨u, hu, hc⟩ := concL_get hz _ _ e
  refine ⟨u, ?_, hc⟩
  have hsz : zu.size = zc.length := hl
  rw [← hsz] at hu
  simp only [Array.getElem?_toList] at hu
  obtain ⟨h1, h2⟩ := Array.getElem?_eq_some_iff.1 hu
  simp [hi, h1, h2]

/-- A new row is as the abstract one is. -/
theorem OR_row {vs : List AV} {cs : Array Value} {e : TypeId} {ro : Bool} (h : concL m vs = some cs.toList) : OR P m (.cells vs e false ro 0) ⟨w.heap.size, 0, 0⟩ { w with heap := w.heap.push (.cells cs e) } := by
  refine ⟨cs, (0, 0), by simp, fun i v hv => ?_, fun _ => .inr rfl, fun hf => (by cases hf), fun _ => ⟨rfl, by have := concL_length h; simpa using this⟩⟩
  obtain ⟨u, hu, hc⟩ := concL_get h _ _ hv
  exact ⟨u, by simpa using hu, hc⟩

theorem modify_push (xs : Array Obj) (o : Obj) (f : Obj → Obj) : (xs.push o).modify xs.size f = xs.push (f o) := by
  apply Array.ext_getElem?
  intro i
  simp only [Array.getElem?_modify, Array.getElem?_push]
  by_cases h : i = xs.size
  · subst h; simp
  · have h' : ¬ xs.size = i := fun e => h e.symm
    simp [h, h']

theorem grownCap_ge (w : World) (need old : Nat) (e : TypeId) : ∃ δ, grownCap w need old e = need + δ := ⟨_, rfl⟩

theorem afresh_sound (hG : GL P m) (ht : TR m t a.tmps) {o : Oper} {x : Fresh} (h : afresh P t o = some x) {X : Nat} (hX : m X = none) :
    ∃ obj u δ n, (execOp a.eval o).run P w = .ok (.value u) { w with heap := w.heap.push obj, drawn := n } ∧ conc (upd m X ⟨w.heap.size, 0, δ⟩) (x.val X) = some u ∧
      OR P (upd m X ⟨w.heap.size, 0, δ⟩) x.obj ⟨w.heap.size, 0, δ⟩ { w with heap := w.heap.push obj } := by
  have hext : Ext m (upd m X ⟨w.heap.size, 0, 0⟩) := Ext.upd hX _
  have hself : upd m X ⟨w.heap.size, 0, 0⟩ X = some ⟨w.heap.size, 0, 0⟩ := upd_same _ _ _
  have hptr : conc (upd m X ⟨w.heap.size, 0, 0⟩) (.ptr (some (X, 0))) = some (.pointer (some ⟨w.heap.size, 0, none⟩)) := by simp [conc, hself]
  unfold afresh at h
  split at h
  case h_1 e ho =>
    cases hz : zeroOf P e with
    | none => simp [hz] at h
    | some z =>
      simp only [hz] at h
      cases hone : allOne z.cells with
      | false => simp [hone] at h
      | true =>
        simp [hone] at h; subst h
        obtain ⟨u, hu, hc, _⟩ := zeroOf_run m hz w
        refine ⟨.cells u.cells e, _, 0, w.drawn, ?_, hptr, OR_row (concL_mono hext _ _ (cells_conc hc))⟩
        simp [execOp, ho, Instr.alloc, hu, newVar, newRow]
  case h_2 e y ho =>
    cases hy : aev P t y with
    | none => simp [hy] at h
    | some v =>
      simp only [hy] at h
      cases hone : allOne v.cells with
      | false => simp [hone] at h
      | true =>
        simp [hone] at h; subst h
        have hc := aev_conc hG ht hy
        refine ⟨.cells (a.eval y).cells e, _, 0, w.drawn, ?_, hptr, OR_row (concL_mono hext _ _ (cells_conc hc))⟩
        simp [execOp, ho, Instr.box, newVar, newRow]
  case h_3 ty len parts ho =>
    split at h
    case h_2 => simp at h
    case h_1 ps e hps hu =>
      split at h
      case h_2 => simp at h
      case h_1 size hs =>
        have hs : sizeOfT P e = some (size + 1) := hs
        have hkpos : 0 < size + 1 := Nat.succ_pos _
        generalize hk : size + 1 = k at *
        cases hz : zeroOf P e with
        | none => simp [hz] at h
        | some z =>
          simp only [hz] at h
          cases hb : (lenEq z.cells k && Nat.ble (len * k) 16777216) with
          | false => simp [hb] at h
          | true =>
            simp only [hb] at h
            simp only [Bool.and_eq_true] at hb
            have hlen := (lenEq_iff _ _).1 hb.1
            have hle := Nat.le_of_ble_eq_true hb.2
            cases hf : afill (fun i => some (i * k, k)) (repeatL z.cells len) ps with
            | none => simp [hf] at h
            | some l =>
              simp only [hf] at h
              cases hone : allOne l with
              | false => simp [hone] at h
              | true =>
                simp [hone] at h; subst h
                obtain ⟨u, hu1, hc, _⟩ := zeroOf_run m hz w
                have hrep := concL_repeat (cells_conc hc) hlen len
                have hpr := aparts_conc hG ht hps
                obtain ⟨us, hfill, hl⟩ := afill_fill hf hpr hrep
                refine ⟨.cells us e, .slice (some ⟨w.heap.size, 0, none⟩) len len, 0, w.drawn, ?_, by simp [conc, hself], OR_row (concL_mono hext _ _ hl)⟩
                have e2 : (parts.map fun x => (x.1, a.eval x.2)).toList = parts.toList.map fun x => (x.1, a.eval x.2) := by simp
                have e3 : (parts.map fun (x : Nat × Operand) => match x with | (i, x) => (i, a.eval x)) = parts.map fun x => (x.1, a.eval x.2) := rfl
                simp only [execOp, ho, Instr.buildSlice, Sem.run_bind, run_underlying' hu, run_sizeOf hs, Result.andThen_ok]
                rw [if_neg (show ¬ len * k > 2 ^ 24 by have : (2:Nat) ^ 24 = 16777216 := rfl; omega)]
                have hfill' : Instr.fill (fun i => some (i * k, k)) ((Array.range (len * k)).map fun x => u.cells[x % u.cells.size]!) (parts.map fun x => (x.1, a.eval x.2)).toList = some us := by
                  rw [e2, ← hfill]
                by_cases h0 : len * k = 0
                · rw [if_pos h0]
                  simp only [Sem.run_bind, Sem.run_pure, Result.andThen_ok]
                  rw [e3]
                  rw [h0] at hfill' ⊢
                  have e4 : ∀ f : Nat → Value, (Array.range 0).map f = #[] := fun f => by apply Array.ext'; simp
                  rw [e4] at hfill' ⊢
                  rw [hfill']
                  simp [newRow]
                · rw [if_neg h0]
                  simp only [Sem.run_bind, hu1, Result.andThen_ok, Sem.run_pure]
                  rw [e3, hfill']
                  simp [newRow]
  case h_4 ty lo co ho =>
    split at h
    case h_2 => simp at h
    case h_1 k l k' c e hl hc hu =>
      cases hi : P.info? e with
      | none => simp [hi] at h
      | some i =>
        simp only [hi] at h
        cases hsz : i.size with
        | zero => simp [hsz] at h
        | succ size =>
          simp only [hsz] at h
          cases hz : zeroOf P e with
          | none => simp [hz] at h
          | some z =>
            simp only [hz] at h
            split at h
            case h_2 => simp at h
            case h_1 hb =>
              simp only [Bool.and_eq_true, decide_eq_true_eq] at hb
              obtain ⟨⟨⟨⟨⟨b1, b2⟩, b3⟩, b4⟩, b5⟩, b6⟩ := hb
              have hlen := (lenEq_iff _ _).1 b1
              have hle := Nat.le_of_ble_eq_true b5
              simp at h; subst h
              have e1 := conc_int (aev_conc hG ht hl)
              have e2 := conc_int (aev_conc hG ht hc)
              obtain ⟨u, hu1, hcz, _⟩ := zeroOf_run m hz w
              have hrep := concL_repeat (cells_conc hcz) hlen c.toNat
              have hsize : sizeOfT P e = some (size + 1) := by simp [sizeOfT, hi, hsz]
              have hw1 : IntKind.i64.wrap l = l := IntWalk.i64_in l (by omega)
              have hw2 : IntKind.i64.wrap c = c := IntWalk.i64_in c (by omega)
              refine ⟨.cells ((Array.range (c.toNat * (size + 1))).map (u.cells[· % u.cells.size]!)) e, .slice (some ⟨w.heap.size, 0, none⟩) l.toNat c.toNat, 0, w.drawn, ?_, by simp [conc, hself], OR_row (concL_mono hext _ _ hrep)⟩
              have hbytes : (i.bytes : Int) * c ≤ 281474976710656 := by
                have h1 : (i.bytes : Int) * c ≤ i.bytes * 1000000 := Int.mul_le_mul_of_nonneg_left b4 (by omega)
                omega
              simp only [execOp, ho, Instr.makeSlice, Sem.run_bind, run_underlying' hu, Result.andThen_ok, e1, e2, asInt, asIntOf, Sem.run_pure, run_typeInfo' hi, hw1, hw2]
              rw [if_neg (by simp; omega)]
              simp only [Sem.run_bind, run_askRoom, Result.andThen_ok, run_sizeOf hsize]
              by_cases h0 : c.toNat * (size + 1) = 0
              · rw [if_pos h0, h0]
                have e4 : ∀ f : Nat → Value, (Array.range 0).map f = #[] := fun f => by apply Array.ext'; simp
                simp [newRow, e4]
              · rw [if_neg h0]
                simp [newRow, hu1]
  case h_5 ty ho =>
    simp at h; subst h
    refine ⟨.map #[] 0, .map (some w.heap.size), 0, w.drawn, by simp [execOp, ho, Instr.makeMap], by simp [conc, hself], ?_⟩
    exact ⟨#[], 0, by simp, rfl, fun i k v e => by simp at e⟩
  case h_6 src dst y ho =>
    split at h
    case h_2 => simp at h
    case h_1 b s e hy hs hd =>
      split at h
      case h_2 => simp at h
      case h_1 he hse =>
        simp at h; subst h
        have hyc := conc_str (aev_conc hG ht hy)
        obtain ⟨δ, hδ⟩ := grownCap_ge w (s.length + 1) 0 e
        let cs : Array Value := (b :: s).toArray.map (fun c => Value.int .u8 c.toNat) ++ Array.replicate δ (.int .u8 0)
        have hcs : cs.size = s.length + 1 + δ := by simp [cs]
        refine ⟨.cells cs e (cs.size, cs.size + 1), .slice (some ⟨w.heap.size, 0, none⟩) (s.length + 1) (s.length + 1 + δ), δ, w.drawn + 1, ?_, ?_, ?_⟩
        · have hsz : (⟨(b :: s).toArray⟩ : ByteArray).size = s.length + 1 := by simp [ByteArray.size]
          simp [execOp, ho, hyc, convert, run_underlying' hs, run_underlying' hd, run_underlying' he, Conv.stringToBytes, Question.forced, hsz, newRow, markStringish]
          have hc : (Question.appendCap (s.length + 1) 0 e).cut (w.tape w.drawn (.appendCap (s.length + 1) 0 e)) = s.length + 1 + δ := hδ
          have hcs2 : ((Value.int .u8 (b.toNat : Int) :: List.map (fun c : UInt8 => Value.int .u8 (c.toNat : Int)) s).toArray ++ Array.replicate (s.length + 1 + δ - (s.length + 1)) (.int .u8 0)) = cs := by
            rw [show s.length + 1 + δ - (s.length + 1) = δ by omega]; simp [cs]
          simp only [hc]
          rw [hcs2]
          have hsh : (w.drew.alloc (.cells cs e)).shape? w.heap.size = some (e, cs.size) := by
            show World.shape? { w with heap := w.heap.push (.cells cs e), drawn := w.drawn + 1 } _ = _
            simp [World.shape?]
          rw [hsh]
          have hfz : (freeze { block := w.heap.size, off := cs.size } 1).run P (w.drew.alloc (.cells cs e)) = .ok () { w with heap := w.heap.push (.cells cs e (cs.size, cs.size + 1)), drawn := w.drawn + 1 } := by
            show Result.ok () (World.freeze { w with heap := w.heap.push (.cells cs e), drawn := w.drawn + 1 } _ 1) = _
            simp [World.freeze, modify_push]
          simp only [hfz, Result.andThen_ok]
        · simp [conc, upd_same]
        · refine ⟨cs, (cs.size, cs.size + 1), by simp, fun i v hv => ?_, fun e => (by cases e), fun _ => ⟨1, ?_, ?_⟩, fun hf => by cases hf⟩
          · cases i with
            | zero =>
              simp at hv; subst hv
              refine ⟨.int .u8 b.toNat, ?_, by simp [conc]⟩
              have h1 : 0 + 0 < ((b :: s).toArray.map (fun c : UInt8 => Value.int .u8 (c.toNat : Int))).size := by simp
              simp only [cs]
              rw [Array.getElem?_append_left h1]
              simp
            | succ i =>
              simp at hv
              obtain ⟨q, hq, rfl⟩ := hv
              have hlt := (List.getElem?_eq_some_iff.1 hq).1
              refine ⟨.int .u8 q.toNat, ?_, by simp [conc]⟩
              have h1 : 0 + (i + 1) < ((b :: s).toArray.map (fun c : UInt8 => Value.int .u8 (c.toNat : Int))).size := by simp; omega
              simp only [cs]
              rw [Array.getElem?_append_left h1]
              simp [hq]
          · exact hse
          · simp [hcs]
  case h_7 ty y ho =>
    split at h
    case h_2 => simp at h
    case h_1 s hy hs =>
      simp at h; subst h
      have hyc := conc_str (aev_conc hG ht hy)
      refine ⟨.stringIter ⟨s.toArray⟩ 0, .pointer (some ⟨w.heap.size, 0, none⟩), 0, w.drawn, ?_, hptr, by simp [OR]⟩
      simp [execOp, ho, hyc, Instr.range, run_underlying' hs]
  case h_8 => simp at h
end
end Go.AE
