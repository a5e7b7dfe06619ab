/-
  What an operation answers hangs on its own operands alone.
-/
import Derived.Test.YtglmnkoophfllaaGreatDoorAEAct3
import Derived.Orders
namespace Go.AE
open Go

variable {P : Program} {t t' : T AV}

theorem aevs_congr : ∀ {l : List Operand}, (∀ x ∈ l, aev P t x = aev P t' x) → aevs P t l = aevs P t' l
  | [], _ => rfl
  | x :: l, h => by
    simp only [aevs]
    rw [h x (by simp), aevs_congr (l := l) fun y hy => h y (by simp [hy])]

theorem aparts_congr : ∀ {l : List (Nat × Operand)}, (∀ x ∈ l.map (·.2), aev P t x = aev P t' x) → aparts P t l = aparts P t' l
  | [], _ => rfl
  | (i, x) :: l, h => by
    simp only [aparts]
    rw [h x (by simp), aparts_congr (l := l) fun y hy => h y (by simp at hy ⊢; exact .inr hy)]

theorem aevo_congr {x : Option Operand} (h : ∀ y, x = some y → aev P t y = aev P t' y) : aevo P t x = aevo P t' x := by
  cases x with
  | none => rfl
  | some x => simp only [aevo]; rw [h x rfl]

/-- The two give the same to each of these operands. -/
def Ag (t t' : T AV) (l : List Operand) : Prop := ∀ i ∈ tmpsIn l, tget t i = tget t' i

theorem tmpsIn_mem : ∀ {l : List Operand} {i : Nat}, Operand.tmp i ∈ l → i ∈ tmpsIn l
  | .tmp j :: l, i, h => by
    simp only [List.mem_cons, Operand.tmp.injEq] at h
    simp only [tmpsIn, List.mem_cons]
    exact h.imp id tmpsIn_mem
  | .const c :: l, i, h => by simp at h; exact tmpsIn_mem (l := l) h
  | .global c :: l, i, h => by simp at h; exact tmpsIn_mem (l := l) h
  | .func c :: l, i, h => by simp at h; exact tmpsIn_mem (l := l) h
theorem mem_tmpsIn : ∀ {l : List Operand} {i : Nat}, i ∈ tmpsIn l → Operand.tmp i ∈ l
  | .tmp j :: l, i, h => by
    simp only [tmpsIn, List.mem_cons] at h
    simp only [List.mem_cons, Operand.tmp.injEq]
    exact h.imp id mem_tmpsIn
  | .const c :: l, i, h => List.mem_cons_of_mem _ (mem_tmpsIn (l := l) h)
  | .global c :: l, i, h => List.mem_cons_of_mem _ (mem_tmpsIn (l := l) h)
  | .func c :: l, i, h => List.mem_cons_of_mem _ (mem_tmpsIn (l := l) h)

theorem Ag.aev {l : List Operand} (h : Ag t t' l) : ∀ x ∈ l, aev P t x = aev P t' x := by
  intro x hx
  cases x with
  | tmp i => simp only [AE.aev]; rw [h i (tmpsIn_mem hx)]
  | _ => rfl

theorem apure_congr {H : AH} {o : Oper} (h' : Ag t t' o.op.operands.toList) : apure P H t o = apure P H t' o := by
  have h := h'.aev (P := P)
  obtain ⟨dst, op, type, pos, after, guard⟩ := o
  cases op <;> simp only [Op.operands] at h <;> simp only [apure]
  case build t ps => rw [aparts_congr fun x hx => h x (by simpa using hx)]
  case makeFunc fn first captured =>
    cases fn <;> simp only
    rw [aevs_congr (l := first.toList) fun x hx => h x (by simp at hx ⊢; simp [hx]), aevs_congr (l := captured.toList) fun x hx => h x (by simp at hx ⊢; simp [hx])]
  case call c =>
    obtain ⟨callee, args, ats⟩ := c
    cases callee <;> simp only
    rw [aevs_congr (l := args.toList) fun x hx => h x (by simp [Call.operands] at hx ⊢; exact hx)]
  case typeAssert x a b ok =>
    cases ok <;> simp only
    rw [h x (by simp)]
  case slice t x lo hi mx =>
    rw [h x (by simp), aevo_congr (x := lo) fun y hy => h y (by simp [hy]), aevo_congr (x := hi) fun y hy => h y (by simp [hy]), aevo_congr (x := mx) fun y hy => h y (by simp [hy])]
  all_goals (first | rfl | (simp_all; done) | skip)

theorem afresh_congr {o : Oper} (h' : Ag t t' o.op.operands.toList) : afresh P t o = afresh P t' o := by
  have h := h'.aev (P := P)
  obtain ⟨dst, op, type, pos, after, guard⟩ := o
  cases op <;> simp only [Op.operands] at h <;> simp only [afresh]
  case buildSlice t n ps => rw [aparts_congr fun x hx => h x (by simpa using hx)]
  case makeMap t r => cases r <;> simp only
  all_goals (first | rfl | (simp_all; done) | skip)

theorem acall_congr {H : AH} {c : Call} (h : ∀ x ∈ c.operands, aev P t x = aev P t' x) : acall P H t c = acall P H t' c := by
  unfold acall
  obtain ⟨callee, args, ats⟩ := c
  rw [aevs_congr (l := args.toList) fun x hx => h x (by simp [Call.operands] at hx ⊢; cases callee <;> simp [hx])]
  cases callee with
  | value f => simp only; rw [h f (by simp [Call.operands])]
  | builtin b => cases b <;> rfl
  | _ => rfl

theorem aact_congr {H : AH} {o : Oper} (h' : Ag t t' o.op.operands.toList) : aact P H t o = aact P H t' o := by
  have h := h'.aev (P := P)
  obtain ⟨dst, op, type, pos, after, guard⟩ := o
  cases op <;> simp only [Op.operands] at h <;> simp only [aact]
  case call c => exact acall_congr fun x hx => h x (by simpa using hx)
  case next x b => cases b <;> simp only; rw [h x (by simp)]
  case defer c =>
    obtain ⟨callee, args, ats⟩ := c
    simp only
    rw [aevs_congr (l := args.toList) fun x hx => h x (by simp [Call.operands] at hx ⊢; cases callee <;> simp [hx])]
    cases callee with
    | value f => simp only; rw [h f (by simp [Call.operands])]
    | _ => rfl
  all_goals (first | rfl | (simp_all; done) | skip)

end Go.AE
