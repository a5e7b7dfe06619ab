/-
  The abstract machine's pure operations and reads against the model's.
-/
import Derived.Test.YtglmnkoophfllaaGreatDoorAEEq
namespace Go.AE
open Go

section
variable {P : Program} {w0 : World} {m : MP} {H : AH} {w : World} {a : Act} {t : T AV}

theorem conc_int {x : Value} {k : IntKind} {n : Int} (h : conc m (.int k n) = some x) : x = .int k n := by simp [conc] at h; exact h.symm
theorem conc_bool {x : Value} {b : Bool} (h : conc m (.bool b) = some x) : x = .bool b := by simp [conc] at h; exact h.symm
theorem conc_str {x : Value} {s : List UInt8} (h : conc m (.str s) = some x) : x = .string ⟨s.toArray⟩ := by simp [conc] at h; exact h.symm
theorem conc_ptr {x : Value} {b o : Nat} (h : conc m (.ptr (some (b, o))) = some x) : ∃ y, m b = some y ∧ x = .pointer (some ⟨y.c, y.off + o, none⟩) := by
  simp only [conc] at h
  split at h
  · rename_i y hy; simp at h; exact ⟨y, hy, h.symm⟩
  · simp at h
theorem conc_sl {x : Value} {b o n c : Nat} {s : Bool} (h : conc m (.sl (some (b, o)) n c s) = some x) : ∃ y, m b = some y ∧ x = .slice (some ⟨y.c, y.off + o, none⟩) n (c + bif s then y.δ else 0) := by
  simp only [conc] at h
  split at h
  · rename_i y hy; simp at h; exact ⟨y, hy, h.symm⟩
  · simp at h
theorem conc_sle {x : Value} {b o adv : Nat} (h : conc m (.sle b o adv) = some x) : ∃ y, m b = some y ∧ x = .slice (some ⟨y.c, y.off + (if y.δ = 0 then o else o + adv), none⟩) 0 y.δ := by
  simp only [conc] at h
  split at h
  · rename_i y hy; simp at h; exact ⟨y, hy, h.symm⟩
  · simp at h
theorem conc_map {x : Value} {b : Nat} (h : conc m (.map (some b)) = some x) : ∃ y, m b = some y ∧ x = .map (some y.c) := by
  simp only [conc] at h
  split at h
  · rename_i y hy; simp at h; exact ⟨y, hy, h.symm⟩
  · simp at h
theorem conc_iface {x : Value} {ty : TypeId} {v : AV} (h : conc m (.iface ty v) = some x) : ∃ y, conc m v = some y ∧ x = .iface ty y := by
  simp only [conc] at h
  split at h
  · rename_i y hy; simp at h; exact ⟨y, hy, h.symm⟩
  · simp at h
theorem conc_func {x : Value} {f : Nat} {p q : List AV} (h : conc m (.func f p q) = some x) : ∃ p' q', concL m p = some p' ∧ concL m q = some q' ∧ x = .func (.func f) p'.toArray q'.toArray := by
  simp only [conc] at h
  split at h
  · rename_i p' q' h1 h2; simp at h; exact ⟨p', q', h1, h2, h.symm⟩
  · simp at h
theorem conc_yieldF {x : Value} {l : Nat} (h : conc m (.yieldF l) = some x) : ∃ y, m l = some y ∧ x = .func (.yield y.c) #[] #[] := by
  simp only [conc] at h
  split at h
  · rename_i y hy; simp at h; exact ⟨y, hy, h.symm⟩
  · simp at h

theorem bytesLt_iff : ∀ (x y : List UInt8), bytesLt x y = Op.bytesLess x y
  | _, [] => by simp [bytesLt, Op.bytesLess]
  | [], _ :: _ => by simp [bytesLt, Op.bytesLess]
  | a :: x, b :: y => by
    simp only [bytesLt, Op.bytesLess]
    have hlt : (a < b) ↔ a.toNat < b.toNat := UInt8.lt_iff_toNat_lt
    cases h : Nat.blt a.toNat b.toNat with
    | true =>
      have : a < b := hlt.2 (by simpa [Nat.blt_eq] using h)
      simp [this]
    | false =>
      have hn : ¬ a < b := fun e => by
        have := hlt.1 e
        rw [← Nat.blt_eq] at this
        rw [h] at this; cases this
      cases he : Nat.beq a.toNat b.toNat with
      | true =>
        have e := UInt8.toNat_inj.1 (Nat.eq_of_beq_eq_true he)
        subst e
        simp [hn, bytesLt_iff x y]
      | false =>
        have e : a ≠ b := fun e => Nat.ne_of_beq_eq_false he (by rw [e])
        simp [hn, e]

theorem loop_eq (bs : ByteArray) : ∀ (n i : Nat) (r : List UInt8), bs.size - i = n → ByteArray.toList.loop bs i r = r.reverse ++ bs.data.toList.drop i := by
  intro n
  induction n with
  | zero =>
    intro i r h
    unfold ByteArray.toList.loop
    rw [if_neg (by omega)]
    have : bs.data.toList.length ≤ i := by have : bs.data.size = bs.size := rfl; simp; omega
    rw [List.drop_eq_nil_of_le this]; simp
  | succ n ih =>
    intro i r h
    unfold ByteArray.toList.loop
    rw [if_pos (by omega), ih (i + 1) _ (by omega)]
    have hi : i < bs.data.toList.length := by have : bs.data.size = bs.size := rfl; simp; omega
    rw [List.drop_eq_getElem_cons hi]
    have hg : bs.get! i = bs.data.toList[i] := by
      have : bs.get! i = bs.data[i]! := rfl
      rw [this]
      simp at hi
      simp [hi]
    rw [hg]
    simp
theorem byteArray_toList (s : List UInt8) : (⟨s.toArray⟩ : ByteArray).toList = s := by
  have := loop_eq ⟨s.toArray⟩ _ 0 [] rfl
  simpa [ByteArray.toList] using this

theorem conc_ptr_any {x : Value} {a : Option (Nat × Nat)} (h : conc m (.ptr a) = some x) : ∃ b, x = .pointer b := by
  cases a with
  | none => simp [conc] at h; exact ⟨_, h.symm⟩
  | some p => obtain ⟨b, o⟩ := p; obtain ⟨y, _, e⟩ := conc_ptr h; exact ⟨_, e⟩
theorem conc_sl_any {x : Value} {a : Option (Nat × Nat)} {n c : Nat} {s : Bool} (h : conc m (.sl a n c s) = some x) : ∃ b d, x = .slice b n d := by
  cases a with
  | none => simp [conc] at h; exact ⟨_, _, h.symm⟩
  | some p => obtain ⟨b, o⟩ := p; obtain ⟨y, _, e⟩ := conc_sl h; exact ⟨_, _, e⟩
theorem conc_map_any {x : Value} {a : Option Nat} (h : conc m (.map a) = some x) : ∃ b, x = .map b := by
  cases a with
  | none => simp [conc] at h; exact ⟨_, h.symm⟩
  | some p => obtain ⟨y, _, e⟩ := conc_map h; exact ⟨_, e⟩

def shapeOk : Value → Value → Bool
  | .bool _, .bool _ | .pointer _, .pointer _ | .nilIface, .iface _ _ | .iface _ _, .nilIface | .slice _ _ _, .slice _ _ _ | .map _, .map _
  | .nilFunc, .nilFunc | .nilFunc, .func _ _ _ | .func _ _ _, .nilFunc | .nilIface, .nilIface | .agg _, .agg _ => true
  | _, _ => false

theorem plainPair_shape {p q : AV} {u v : Value} (h : plainPair p q = true) (hp : conc m p = some u) (hq : conc m q = some v) :
    shapeOk u v = true ∧ ∀ (op : BinOp) (ty : TypeId) (x y : Operand) (w : World), (eqGuard op ty x y u v).run P w = .ok () w := by
  unfold plainPair at h
  split at h
  case h_1 => cases hp; cases hq; exact ⟨rfl, fun op _ _ _ _ => by cases op <;> simp [eqGuard]⟩
  case h_2 => obtain ⟨_, rfl⟩ := conc_ptr_any hp; obtain ⟨_, rfl⟩ := conc_ptr_any hq; exact ⟨rfl, fun op _ _ _ _ => by cases op <;> simp [eqGuard]⟩
  case h_3 => obtain ⟨_, rfl⟩ := conc_ptr_any hp; obtain ⟨_, rfl⟩ := conc_ptr_any hq; exact ⟨rfl, fun op _ _ _ _ => by cases op <;> simp [eqGuard]⟩
  case h_4 => cases hp; obtain ⟨_, _, rfl⟩ := conc_iface hq; exact ⟨rfl, fun op _ _ _ _ => by cases op <;> simp [eqGuard]⟩
  case h_5 => cases hq; obtain ⟨_, _, rfl⟩ := conc_iface hp; exact ⟨rfl, fun op _ _ _ _ => by cases op <;> simp [eqGuard]⟩
  case h_6 => obtain ⟨_, _, rfl⟩ := conc_sl_any hp; obtain ⟨_, _, rfl⟩ := conc_sl_any hq; exact ⟨rfl, fun op _ _ _ _ => by cases op <;> simp [eqGuard]⟩
  case h_7 => obtain ⟨_, _, rfl⟩ := conc_sl_any hp; obtain ⟨_, _, rfl⟩ := conc_sl_any hq; exact ⟨rfl, fun op _ _ _ _ => by cases op <;> simp [eqGuard]⟩
  case h_8 => obtain ⟨_, rfl⟩ := conc_map_any hp; obtain ⟨_, rfl⟩ := conc_map_any hq; exact ⟨rfl, fun op _ _ _ _ => by cases op <;> simp [eqGuard]⟩
  case h_9 => obtain ⟨_, rfl⟩ := conc_map_any hp; obtain ⟨_, rfl⟩ := conc_map_any hq; exact ⟨rfl, fun op _ _ _ _ => by cases op <;> simp [eqGuard]⟩
  case h_10 => cases hp; cases hq; exact ⟨rfl, fun op _ _ _ _ => by cases op <;> simp [eqGuard]⟩
  case h_11 => cases hp; obtain ⟨_, _, _, _, rfl⟩ := conc_func hq; exact ⟨rfl, fun op _ _ _ _ => by cases op <;> simp [eqGuard]⟩
  case h_12 => cases hq; obtain ⟨_, _, _, _, rfl⟩ := conc_func hp; exact ⟨rfl, fun op _ _ _ _ => by cases op <;> simp [eqGuard]⟩
  case h_13 => obtain ⟨_, rfl⟩ := conc_ptr_any hp; obtain ⟨_, rfl⟩ := conc_ptr_any hq; exact ⟨rfl, fun op _ _ _ _ => by cases op <;> simp [eqGuard]⟩
  case h_14 => simp at h

theorem binOp_eq_run {ty : TypeId} {u v : Value} {b : Bool} (he : (Op.equal ty u v).run P w = .ok b w) (hk : shapeOk u v = true) :
    (binOp .eql ty u v).run P w = .ok (.bool b) w ∧ (binOp .neq ty u v).run P w = .ok (.bool (!b)) w := by
  constructor
  · cases u <;> cases v <;> first | (simp [shapeOk] at hk; done) | simp [binOp, he]
  · cases u <;> cases v <;> first | (simp [shapeOk] at hk; done) | simp [binOp, he]

theorem abin_run {op : BinOp} {ty : TypeId} {x y : Operand} {p q r : AV} {u v : Value} (h : abin P op ty (isConst x || isConst y) p q = some r) (hp : conc m p = some u) (hq : conc m q = some v) (w : World) :
    ∃ z, (do eqGuard op ty x y u v; binOp op ty u v : Sem Value).run P w = .ok z w ∧ conc m r = some z := by
  unfold abin at h
  split at h
  case h_1 k i k' j =>
    have := conc_int hp; subst this
    have := conc_int hq; subst this
    have hg : (eqGuard op ty x y (.int k i) (.int k' j) : Sem Unit) = pure () := by cases op <;> rfl
    rw [hg]
    split at h
    case h_1 =>
      cases hb : decide (j < 0) with
      | true => simp [hb] at h
      | false =>
        simp [hb] at h; subst h
        have : ¬ j < 0 := by simpa using hb
        simp [binOp, Op.shift, this, conc]
    case h_2 =>
      cases hb : decide (j < 0) with
      | true => simp [hb] at h
      | false =>
        simp [hb] at h; subst h
        have : ¬ j < 0 := by simpa using hb
        simp [binOp, Op.shift, this, conc]
    case h_3 op _ h1 h2 =>
      cases hk : kindEq k k' with
      | false => simp [hk] at h
      | true =>
        have := kindEq_iff hk; subst this
        simp only [hk] at h
        split at h
        case h_4 =>
          cases hz : intEq j 0 with
          | true => simp [hz] at h
          | false =>
            simp [hz] at h; subst h
            have : j ≠ 0 := by rw [intEq_iff] at hz; simpa using hz
            simp [binOp, Op.intDiv, this, conc]
        case h_5 =>
          cases hz : intEq j 0 with
          | true => simp [hz] at h
          | false =>
            simp [hz] at h; subst h
            have : j ≠ 0 := by rw [intEq_iff] at hz; simpa using hz
            simp [binOp, Op.intDiv, this, conc]
        all_goals first
          | (cases h; simp [binOp, Op.intArith, conc]; done)
          | (cases h; simp [binOp, Op.intBits, conc]; done)
          | (cases h; simp [binOp, Op.intCmp, conc, intEq_iff, bne]; done)
          | (simp at h; done)
  case h_2 s s' =>
    have := conc_str hp; subst this
    have := conc_str hq; subst this
    have hg : (eqGuard op ty x y (.string ⟨s.toArray⟩) (.string ⟨s'.toArray⟩) : Sem Unit) = pure () := by cases op <;> rfl
    rw [hg]
    split at h
    case h_1 =>
      cases hb : Nat.ble (s.length + s'.length) 9223372036854775807 with
      | false => simp [hb] at h
      | true =>
        simp [hb] at h; subst h
        have hle := Nat.le_of_ble_eq_true hb
        have hs : (⟨s.toArray⟩ : ByteArray).size = s.length := by simp [ByteArray.size]
        have hs' : (⟨s'.toArray⟩ : ByteArray).size = s'.length := by simp [ByteArray.size]
        have hmax : IntKind.max .i64 = 9223372036854775807 := by decide
        refine ⟨_, ?_, rfl⟩
        simp only [binOp, Op.stringOp, Sem.run_bind, Sem.run_pure, Result.andThen_ok, hs, hs', hmax]
        rw [if_neg (by omega)]
        simp only [Sem.run_pure]
        congr 2
    all_goals first
      | (cases h; simp [binOp, Op.stringOp, conc, byteArray_toList, bytesEq_iff, bytesLt_iff]; done)
      | (simp at h; done)
  case h_3 k i k' j =>
    cases hp
    cases hq
    have hg : (eqGuard op ty x y (.float k i) (.float k' j) : Sem Unit) = pure () := by cases op <;> rfl
    rw [hg]
    cases hk : fkindEq k k' with
    | false => simp [hk] at h
    | true =>
      have := fkindEq_iff hk; subst this
      simp only [hk] at h
      split at h
      all_goals first
        | (cases h; simp [binOp, Op.floatCmp, conc]; done)
        | (simp at h; done)
  case h_4 =>
    cases hcst : (isConst x || isConst y) with
    | false => simp [hcst] at h
    | true =>
      simp only [hcst] at h
      cases hp; cases hq
      have hg : ∀ w : World, (eqGuard op ty x y .nilIface .nilIface).run P w = .ok () w := by
        intro w
        unfold eqGuard
        cases x <;> cases y <;> first
          | (simp [isConst] at hcst; done)
          | (cases op <;> simp; done)
      split at h
      · cases he : aeq P eqDepth ty .nilIface .nilIface with
        | none => simp [he] at h
        | some b =>
          simp [he] at h; subst h
          have hr := equal_run (m := m) he rfl rfl w
          obtain ⟨h1, h2⟩ := binOp_eq_run hr rfl
          exact ⟨_, by simp [hg, h1], rfl⟩
      · cases he : aeq P eqDepth ty .nilIface .nilIface with
        | none => simp [he] at h
        | some b =>
          simp [he] at h; subst h
          have hr := equal_run (m := m) he rfl rfl w
          obtain ⟨h1, h2⟩ := binOp_eq_run hr rfl
          exact ⟨_, by simp [hg, h2], rfl⟩
      · simp at h
  case h_5 xs ys =>
    cases hgt : P.eqGuardType P.depth ty with
    | true => simp [hgt] at h
    | false =>
      simp only [hgt] at h
      obtain ⟨us, hus, rfl⟩ := conc_agg.1 hp
      obtain ⟨vs, hvs, rfl⟩ := conc_agg.1 hq
      have hg : ∀ w : World, (eqGuard op ty x y (.agg us.toArray) (.agg vs.toArray)).run P w = .ok () w := by
        intro w
        unfold eqGuard
        cases op <;> simp [hgt]
      split at h
      · cases he : aeq P eqDepth ty (.agg xs) (.agg ys) with
        | none => simp [he] at h
        | some b =>
          simp [he] at h; subst h
          have hr := equal_run he hp hq w
          obtain ⟨h1, h2⟩ := binOp_eq_run hr rfl
          exact ⟨_, by simp [hg, h1], rfl⟩
      · cases he : aeq P eqDepth ty (.agg xs) (.agg ys) with
        | none => simp [he] at h
        | some b =>
          simp [he] at h; subst h
          have hr := equal_run he hp hq w
          obtain ⟨h1, h2⟩ := binOp_eq_run hr rfl
          exact ⟨_, by simp [hg, h2], rfl⟩
      · simp at h
  case h_6 n1 n2 n3 n4 n5 =>
    cases hpp : plainPair p q with
    | false => simp [hpp] at h
    | true =>
    simp only [hpp] at h
    obtain ⟨hk, hg⟩ := plainPair_shape (P := P) hpp hp hq
    split at h
    · cases he : aeq P eqDepth ty p q with
      | none => simp [he] at h
      | some b =>
        simp [he] at h; subst h
        obtain ⟨h1, h2⟩ := binOp_eq_run (equal_run he hp hq w) hk
        exact ⟨_, by simp [hg, h1], rfl⟩
    · cases he : aeq P eqDepth ty p q with
      | none => simp [he] at h
      | some b =>
        simp [he] at h; subst h
        obtain ⟨h1, h2⟩ := binOp_eq_run (equal_run he hp hq w) hk
        exact ⟨_, by simp [hg, h2], rfl⟩
    · simp at h
end
end Go.AE
