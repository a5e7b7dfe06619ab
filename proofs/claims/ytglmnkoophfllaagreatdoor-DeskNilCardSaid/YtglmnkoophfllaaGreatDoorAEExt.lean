/-
  Functions without a body, and unsafe.String: what they answer.
-/
import Derived.Test.YtglmnkoophfllaaGreatDoorAENext
import Derived.Lib.Bytealg
import Derived.Lib.IndexEntry
import Derived.Lib.UnsafeStr
namespace Go.AE
open Go
section
variable {P : Program} {w0 : World} {m : MP} {H : AH} {w : World}

theorem find_indexByteString (fn : Func) (h : fn.name = "internal/bytealg.IndexByteString") : Extern.find fn = some Extern.BytealgIndexByte.indexByte := by
  unfold Extern.find
  simp only [h]
  rfl
theorem find_indexString (fn : Func) (h : fn.name = "internal/bytealg.IndexString") : Extern.find fn = some Extern.BytealgIndex.index := by
  unfold Extern.find
  simp only [h]
  rfl
theorem find_bits (fn : Func) (h : fn.name = "math.Float64bits") : Extern.find fn = some Extern.MathFloatBits.float64bits := by
  unfold Extern.find
  simp only [h]
  rfl
theorem find_frombits (fn : Func) (h : fn.name = "math.Float64frombits") : Extern.find fn = some Extern.MathFloatBits.float64frombits := by
  unfold Extern.find
  simp only [h]
  rfl
theorem find_noEscape (fn : Func) (h : fn.name = "internal/abi.NoEscape") : Extern.find fn = some Extern.AbiNoEscape.same := by
  unfold Extern.find
  simp only [h]
  rfl
theorem next_of {fn : Func} (ho : fn.origin = "") (hn : (Extern.allNextRows.lookup fn.name).isNone = true) : Extern.findNext fn = none := by
  unfold Extern.findNext
  have h0 : Extern.allNextRows.lookup "" = none := by rfl
  cases h : Extern.allNextRows.lookup fn.name with
  | none => simp [h, ho, h0]
  | some x => simp [h] at hn
theorem run_extern {f : Nat} {fn : Func} {e : Array Value → Sem Value} {args : Array Value} {u : Value} (hf : P.funcs[f]? = some fn) (hb : fn.body = none) (hn : (fn.name == "runtime.NumGoroutine") = false)
    (hx : Extern.findNext fn = none) (he : Extern.find fn = some e) (hr : (e args).run P w = .ok u w) : (callFunc f args).run P w = .ok (.value u) w := by
  have hn : ¬ fn.name = "runtime.NumGoroutine" := by simpa using hn
  simp [callFunc, hf, hn, hb, hx, he, hr]

theorem indexByteL_eq (c : UInt8) : ∀ (l : List UInt8) (i : Nat), indexByteL (c.toNat : Int) l i = if Lib.indexByte l c == -1 then -1 else Lib.indexByte l c + i
  | [], i => by simp [indexByteL, Lib.indexByte]
  | b :: l, i => by
    unfold indexByteL Lib.indexByte
    have hge := Lib.indexByte_ge l c
    by_cases e : b = c
    · subst e; simp [intEq]
    · have : ¬ ((b.toNat : Int) = c.toNat) := fun q => e (UInt8.toNat_inj.1 (by omega))
      simp only [intEq, this, decide_false]
      rw [indexByteL_eq c l (i + 1)]
      have e' : (b == c) = false := by simpa using e
      rw [e']
      by_cases h : Lib.indexByte l c = -1
      · simp [h]
      · have h1 : (Lib.indexByte l c == -1) = false := by simpa using h
        have h2 : (Lib.indexByte l c + 1 == -1) = false := by simp; omega
        simp [h1, h2]
        omega
theorem prefixL_eq : ∀ (x l : List UInt8), prefixL x l = x.isPrefixOf l
  | [], l => by simp [prefixL]
  | a :: x, [] => by simp [prefixL]
  | a :: x, b :: y => by
    unfold prefixL
    rw [List.isPrefixOf]
    by_cases e : a = b
    · subst e; simp [prefixL_eq x y]
    · have : Nat.beq a.toNat b.toNat = false := by
        cases hb : Nat.beq a.toNat b.toNat with
        | false => rfl
        | true => exact absurd (UInt8.toNat_inj.1 (Nat.eq_of_beq_eq_true hb)) e
      have e' : (a == b) = false := by simpa using e
      simp [this, e']
theorem indexL_eq {x : List UInt8} (hx : x ≠ []) : ∀ (l : List UInt8) (i : Nat), indexL x l i = if Lib.index l x == -1 then -1 else Lib.index l x + i
  | [], i => by cases x <;> simp_all [indexL, Lib.index]
  | b :: l, i => by
    unfold indexL Lib.index
    have hge := Lib.index_ge l x
    rw [prefixL_eq]
    cases x.isPrefixOf (b :: l) with
    | true => simp
    | false =>
      simp only [Bool.false_eq_true, if_false]
      rw [indexL_eq hx l (i + 1)]
      by_cases h : Lib.index l x = -1
      · simp [h]
      · have h1 : (Lib.index l x == -1) = false := by simpa using h
        have h2 : (Lib.index l x + 1 == -1) = false := by simp; omega
        simp [h1, h2]
        omega
theorem gidx_eq (name : String) : ∀ (l : List Global) (i : Nat), gidx name l i = (l.findIdx? (·.name == name)).map (· + i)
  | [], i => by simp [gidx]
  | g :: l, i => by
    unfold gidx
    rw [List.findIdx?_cons]
    cases (g.name == name) with
    | true => simp
    | false =>
      simp only [gidx_eq name l (i + 1), Bool.false_eq_true, if_false, Option.map_map]
      congr 1
      funext k
      simp; omega

theorem aextern_sound (hr : HR P w0 m H w) (hG : GL P m) {g : Nat} {vs : List AV} {us : List Value} {r : AR} (h : aextern P H g vs = some r) (hc : concL m vs = some us) :
    ∃ v u, r = .val v H ∧ (callFunc g us.toArray).run P w = .ok (.value u) w ∧ conc m v = some u := by
  unfold aextern at h
  split at h
  · cases h
  · rename_i fn hf
    split at h
    · cases h
    · rename_i hb
      split at h
      · cases h
      · rename_i ho
        have ho : fn.origin = "" := by simpa using ho
        split at h
        · rename_i s c hn
          cases h
          obtain ⟨u1, us1, rfl, h1, h2⟩ := concL_cons.1 hc
          obtain ⟨u2, us2, rfl, h3, h4⟩ := concL_cons.1 h2
          simp [concL_nil] at h4; subst h4
          have := conc_str h1; subst this
          have := conc_int h3; subst this
          refine ⟨_, _, rfl, run_extern hf hb (by rw [hn]; rfl) (next_of ho (by rw [hn]; rfl)) (find_indexByteString fn hn) (Lib.run_indexByteString _ _ w), ?_⟩
          simp only [conc]
          have hge := Lib.indexByte_ge s c.toNat.toUInt8
          rw [indexByteL_eq]
          by_cases e : Lib.indexByte s c.toNat.toUInt8 = -1
          · simp [e]
          · have h1 : (Lib.indexByte s c.toNat.toUInt8 == -1) = false := by simpa using e
            simp [h1]
        · rename_i s x hn
          split at h
          · cases h
          · rename_i gl hgl
            split at h
            · rename_i mx hlt hld
              cases hb3 : (Nat.ble 2 x.length && decide ((x.length : Int) ≤ mx) && Nat.blt s.length 4294967281) with
              | false => simp [hb3] at h
              | true =>
                simp [hb3] at h; subst h
                simp only [Bool.and_eq_true, decide_eq_true_eq] at hb3
                obtain ⟨⟨q1, q2⟩, q3⟩ := hb3
                have q1 := Nat.le_of_ble_eq_true q1
                have q3 : s.length < 4294967281 := Nat.lt_of_lt_of_le (Nat.lt_succ_self _) (Nat.le_of_ble_eq_true q3)
                have hlt : gl < P.globals.size := Nat.lt_of_lt_of_le (Nat.lt_succ_self _) (Nat.le_of_ble_eq_true hlt)
                obtain ⟨u1, us1, rfl, h1, h2⟩ := concL_cons.1 hc
                obtain ⟨u2, us2, rfl, h3, h4⟩ := concL_cons.1 h2
                simp [concL_nil] at h4; subst h4
                have := conc_str h1; subst this
                have := conc_str h3; subst this
                have hgl' : P.globals.findIdx? (·.name == "internal/bytealg.MaxLen") = some gl := by
                  rw [gidx_eq] at hgl
                  have hg := List.findIdx?_toArray (fun x : Global => x.name == "internal/bytealg.MaxLen") P.globals.toList
                  rw [Array.toArray_toList] at hg
                  rw [hg]
                  simpa using hgl
                obtain ⟨us, e1, e2, e3⟩ := loadN_cells hr hld (hG gl hlt)
                obtain ⟨v, vs, rfl, e4, e5⟩ := concL_cons.1 e1
                have := conc_int e4; subst this
                have hcell : w.cell? ⟨gl, 0, none⟩ = some (.int .i64 mx) := e3 0 _ rfl
                have hsz : ∀ l : List UInt8, (⟨l.toArray⟩ : ByteArray).size = l.length := fun l => by simp [ByteArray.size]
                refine ⟨_, _, rfl, run_extern hf hb (by rw [hn]; rfl) (next_of ho (by rw [hn]; rfl)) (find_indexString fn hn) (Lib.run_indexString ⟨s.toArray⟩ ⟨x.toArray⟩ w gl mx hgl' hcell (by rw [hsz]; exact q1) (by rw [hsz]; exact q2) (by rw [hsz]; exact q3)), ?_⟩
                simp only [conc]
                rw [indexL_eq (by intro e; subst e; simp at q1)]
                have hge := Lib.index_ge s x
                by_cases e : Lib.index s x = -1
                · simp [e]
                · have h1 : (Lib.index s x == -1) = false := by simpa using e
                  simp [h1]
            · cases h
        · rename_i b hn
          cases h
          obtain ⟨u1, us1, rfl, h1, h2⟩ := concL_cons.1 hc
          simp [concL_nil] at h2; subst h2
          cases h1
          exact ⟨_, _, rfl, run_extern hf hb (by rw [hn]; rfl) (next_of ho (by rw [hn]; rfl)) (find_bits fn hn) rfl, rfl⟩
        · rename_i b hn
          cases h
          obtain ⟨u1, us1, rfl, h1, h2⟩ := concL_cons.1 hc
          simp [concL_nil] at h2; subst h2
          cases h1
          exact ⟨_, _, rfl, run_extern hf hb (by rw [hn]; rfl) (next_of ho (by rw [hn]; rfl)) (find_frombits fn hn) rfl, rfl⟩
        · rename_i b hn
          cases h
          obtain ⟨u1, us1, rfl, h1, h2⟩ := concL_cons.1 hc
          simp [concL_nil] at h2; subst h2
          exact ⟨_, u1, rfl, run_extern hf hb (by rw [hn]; rfl) (next_of ho (by rw [hn]; rfl)) (find_noEscape fn hn) rfl, h1⟩
        · cases h

/-! ### unsafe.String -/
theorem bytesOfL_get : ∀ {l : List AV} {r : List UInt8}, bytesOfL l = some r → r.length = l.length ∧ ∀ (i : Nat) (x : UInt8), r[i]? = some x → ∃ n : Int, l[i]? = some (.int .u8 n) ∧ n.toNat.toUInt8 = x
  | [], r, h => by simp [bytesOfL] at h; subst h; simp
  | .int .u8 n :: l, r, h => by
    simp only [bytesOfL] at h
    cases hl : bytesOfL l with
    | none => simp [hl] at h
    | some q =>
      simp [hl] at h; subst h
      obtain ⟨h1, h2⟩ := bytesOfL_get hl
      refine ⟨by simp [h1], fun i x e => ?_⟩
      cases i with
      | zero => simp at e; exact ⟨n, rfl, e⟩
      | succ i => simp at e; exact h2 i x e

theorem run_loadBytes : ∀ (l : List UInt8) (c o : Nat) (acc : ByteArray) (w : World), (∀ (j : Nat) (x : UInt8), l[j]? = some x → ∃ n : Int, w.cell? ⟨c, o + j, none⟩ = some (.int .u8 n) ∧ n.toNat.toUInt8 = x) →
    (loadBytes ⟨c, o, none⟩ acc l.length).run P w = .ok ⟨acc.data ++ l.toArray⟩ w
  | [], c, o, acc, w, _ => by simp [loadBytes]
  | x :: l, c, o, acc, w, h => by
    obtain ⟨n, h0, hx⟩ := h 0 x rfl
    have ih := run_loadBytes l c (o + 1) (acc.push x) w (fun j y hy => by
      have := h (j + 1) y (by simpa using hy)
      rwa [show o + (j + 1) = o + 1 + j by omega] at this)
    have ha : (⟨c, o, none⟩ : Addr).add 1 = ⟨c, o + 1, none⟩ := addr_add _ _ _
    simp only [Nat.add_zero] at h0
    simp only [List.length_cons, loadBytes, Sem.run_bind, run_load, h0, Result.andThen, hx, ha]
    rw [ih]
    congr 1
    apply ByteArray.ext
    simp [ByteArray.push]

theorem cellsOf_of {t : TypeId} {n : Nat} (h : sizeOfT P t = some n) : P.cellsOf t = n := by
  unfold sizeOfT at h
  simp [Program.cellsOf, h]

theorem liesAt_row {e : TypeId} (hc : P.cellsOf e = 1) (count off n : Nat) (hn : off + n ≤ count) : liesAt P P.depth e count off e n = true := by
  have hd : P.depth = (2 * (P.types.size + Made.depth) + 1) + 1 := rfl
  rw [hd]
  simp only [liesAt, Bool.or_eq_true]
  left
  rw [hd]
  simp [rowAt, hc, hn, sameLayout]
  exact .inl (Nat.mod_one _)

theorem aunsafeString_sound (hr : HR P w0 m H w) {ts : List TypeId} {tt : TypeId} {args : List AV} {us : List Value} {r : AR} (h : aunsafeString P H ts args = some r) (hx : concL m args = some us) :
    ∃ v H', r = .val v H' ∧ VOk P w0 m H v H' ((Builtin.unsafeString_ ts.toArray tt us.toArray).run P w) := by
  unfold aunsafeString at h
  split at h
  case h_2 => cases h
  case h_1 pt rest a k n =>
    obtain ⟨u1, us1, rfl, h1, h2⟩ := concL_cons.1 hx
    obtain ⟨u2, us2, rfl, h3, h4⟩ := concL_cons.1 h2
    simp [concL_nil] at h4; subst h4
    have := conc_int h3; subst this
    have hmax : IntKind.i64.max = 9223372036854775807 := rfl
    have hdef : ∀ q : Option Addr, Builtin.unsafeString_ (pt :: rest).toArray tt [Value.pointer q, Value.int k (Int.ofNat n)].toArray =
        (do
          let n ← asInt (.int k (Int.ofNat n))
          if n < 0 then runtimePanic (.error "unsafe.String: len out of range")
          if n > IntKind.i64.max then unsupported (.unsafePointer "String: a length above the largest int")
          match q with
          | none =>
            if n = 0 then pure (.string .empty)
            else runtimePanic (.error "unsafe.String: ptr is nil and len is not zero")
          | some a =>
            if n = 0 then pure (.string .empty)
            else if ← variablesAt a (← elemOf pt) n.toNat then do
              let s ← loadBytes a .empty n.toNat
              freeze a n.toNat
              pure (.string s)
            else unsupported (.unsafePointer "String: not so many bytes at ptr")) := fun _ => rfl
    cases n with
    | zero =>
      simp at h; subst h
      refine ⟨_, _, rfl, m, w, .string .empty, ?_, by simp [conc]; rfl, hr, Grow.refl m H⟩
      obtain ⟨q, rfl⟩ := conc_ptr_any h1
      rw [hdef]
      cases q <;> simp [asInt, asIntOf, hmax]
    | succ n =>
      simp only at h
      cases a with
      | none => cases h
      | some p =>
        obtain ⟨b, off⟩ := p
        simp only at h
        split at h
        case h_2 => cases h
        case h_1 e' vs e s fz hu ho =>
          split at h
          case h_2 => cases h
          case h_1 l hb hsz hl =>
            cases hbs : bytesOfL l with
            | none => simp [hbs] at h
            | some bs =>
              simp [hbs] at h; subst h
              simp only [Bool.and_eq_true] at hb
              obtain ⟨b1, b2⟩ := hb
              have b1 := Nat.eq_of_beq_eq_true b1
              subst b1
              have b2 := Nat.le_of_ble_eq_true b2
              obtain ⟨y, hy, rfl⟩ := conc_ptr h1
              obtain ⟨cs, fr, g1, g2, g3, g4, g5⟩ := hr.objs b _ y ho hy
              obtain ⟨hl1, hl2⟩ := takeN_get _ _ _ hl
              obtain ⟨hb1, hb2⟩ := bytesOfL_get hbs
              have hlen : bs.length = n + 1 := by omega
              have hcell : ∀ (j : Nat) (x : UInt8), bs[j]? = some x → ∃ i : Int, w.cell? ⟨y.c, y.off + off + j, none⟩ = some (.int .u8 i) ∧ i.toNat.toUInt8 = x := by
                intro j x hj
                obtain ⟨i, hi, hx⟩ := hb2 j x hj
                have hjl : j < n + 1 := by have := (List.getElem?_eq_some_iff.1 hj).1; omega
                rw [hl2 j hjl, dropN_get] at hi
                obtain ⟨u, hu', hc⟩ := g2 _ _ hi
                have := conc_int hc; subst this
                refine ⟨i, ?_, hx⟩
                rw [cell_row g1, Nat.add_assoc]
                exact hu'
              have hvl : off + (n + 1) ≤ vs.length := by
                have : l[n]? ≠ none := by
                  intro hh
                  have := List.getElem?_eq_none_iff.1 hh
                  omega
                rw [hl2 n (by omega), dropN_get] at this
                have : off + n < vs.length := by
                  rcases Nat.lt_or_ge (off + n) vs.length with h | h
                  · exact h
                  · exact absurd (List.getElem?_eq_none_iff.2 h) this
                omega
              have hcs : y.off + vs.length ≤ cs.size := by
                cases s with
                | true => obtain ⟨size, _, q⟩ := g4 rfl; omega
                | false => obtain ⟨q1, q2⟩ := g5 rfl; omega
              have hld := run_loadBytes (P := P) bs y.c (y.off + off) .empty w hcell
              have hsh : w.shape? y.c = some (e', cs.size) := shapeRow g1
              have hci := cellsOf_of hsz
              have hlies := liesAt_row (P := P) hci cs.size (y.off + off) (n + 1) (by omega)
              have hi1 : ¬ ((n : Int) + 1 < 0) := by omega
              have hi2 : ¬ (9223372036854775807 < (n : Int) + 1) := by omega
              have hi3 : ¬ ((n : Int) + 1 = 0) := by omega
              have hi4 : ((n : Int) + 1).toNat = n + 1 := by omega
              rw [hlen] at hld
              have hrun : (Builtin.unsafeString_ (pt :: rest).toArray tt [Value.pointer (some ⟨y.c, y.off + off, none⟩), Value.int k (Int.ofNat (n + 1))].toArray).run P w = .ok (.string ⟨bs.toArray⟩) (w.freeze ⟨y.c, y.off + off, none⟩ (n + 1)) := by
                rw [hdef]
                simp [asInt, asIntOf, hmax, hi1, hi2, hi3, hi4, variablesAt, hsh, elemOf, run_underlying' hu, hci, hlies, hld]
              have hfz : w.freeze ⟨y.c, y.off + off, none⟩ (n + 1) = { w with heap := w.heap.setIfInBounds y.c (.cells cs e' (if fr.1 == fr.2 then (y.off + off, y.off + off + (n + 1)) else (min fr.1 (y.off + off), max fr.2 (y.off + off + (n + 1))))) } := by
                unfold World.freeze
                rw [if_neg (by omega)]
                congr 1
                apply Array.ext_getElem?
                intro i
                simp only [Array.getElem?_modify, Array.getElem?_setIfInBounds]
                by_cases hi : y.c = i
                · subst hi
                  have hlt := hr.bound b y hy
                  rw [g1]
                  simp [hlt]
                · simp [hi]
              rw [hfz] at hrun
              refine ⟨_, _, rfl, m, _, _, hrun, by simp [conc], hr.turn ho rfl hy ⟨cs, _, Array.getElem?_setIfInBounds_self_of_lt (hr.bound b y hy), g2, fun _ => .inl ?_, g4, g5⟩, put_grow hy⟩
              have hmx : off + (n + 1) ≤ maxN fz (off + (n + 1)) ∧ fz ≤ maxN fz (off + (n + 1)) := by
                unfold maxN
                split
                · rename_i q; exact ⟨Nat.le_refl _, Nat.le_of_ble_eq_true q⟩
                · rename_i q; exact ⟨by have : ¬ fz ≤ off + (n + 1) := fun h => by rw [Nat.ble_eq_true_of_le h] at q; cases q
                                        omega, Nat.le_refl _⟩
              obtain ⟨m1, m2⟩ := hmx
              by_cases hfr : fr.1 = fr.2
              · rw [if_pos (by simpa using hfr)]
                show y.off + off + (n + 1) ≤ _
                omega
              · rw [if_neg (by simpa using hfr)]
                show max fr.2 (y.off + off + (n + 1)) ≤ _
                rcases g3 rfl with q | q
                · omega
                · exact absurd q hfr
end
end Go.AE
