/-
  A region's state: what the abstract machine has done ahead, and what the model has still to come to.
-/
import Derived.Test.YtglmnkoophfllaaGreatDoorAECongr2
import Derived.Test.YtglmnkoophfllaaGreatDoorAEOrder
namespace Go.AE
open Go

section
variable {P : Program} {w0 : World} {m m' : MP} {H H' : AH} {w : World} {ops : Array Oper} {t : T AV} {tmps : Array Value}

/-- What stands for an operation that the model has still to come to. -/
def PV (P : Program) (m : MP) (H : AH) (lo hi size : Nat) (ops : Array Oper) (sus : Bool) (X : Nat → Nat) (t : T AV) (p : PStep) : Prop :=
  ∃ d, p.o.dst = some d ∧ d < size ∧
    ((awanted ops t p.o = false ∧ tget t d = .und) ∨
     (awanted ops t p.o = true ∧
      ((qcls P p.o.op = .pure ∧ ((sus = true ∧ looks p.o.op = true) ∨ apure P H t p.o = some (tget t d))) ∨
       (∃ x, qcls P p.o.op = .fresh ∧ afresh P t p.o = some x ∧ tget t d = x.val (X p.i) ∧ H.get (X p.i) = some x.obj ∧ m (X p.i) = none ∧ lo ≤ X p.i ∧ X p.i < hi))))

structure Draw (P : Program) (m : MP) (H : AH) (lo hi size : Nat) (ops : Array Oper) (sus : Bool) (t : T AV) (tmps : Array Value) (done rest : List PStep) (L : List Nat) : Prop where
  plan : planDraw ops.toList = some (done ++ rest)
  linv : LInv ops.toList L
  rin : ∀ p ∈ rest, p.i ∈ L
  aout : ∀ p ∈ done, p.act = true → p.i ∉ L
  rel : ∀ j, (∀ p ∈ done, p.i ∈ L → p.o.dst ≠ some j) → conc m (tget t j) = some (tmps.getD j undef)
  pend : ∃ X : Nat → Nat, (∀ p ∈ done, p.i ∈ L → PV P m H lo hi size ops sus X t p) ∧
    ∀ p q, p ∈ done → q ∈ done → p.i ∈ L → q.i ∈ L → qcls P p.o.op = .fresh → qcls P q.o.op = .fresh → awanted ops t p.o = true → awanted ops t q.o = true → X p.i = X q.i → p.i = q.i

theorem tget_set (t : T AV) (d : Nat) (v : AV) (j : Nat) : tget (t.set d (some v)) j = if j = d then v else tget t j := by
  unfold tget; rw [T.get_set]
  by_cases e : j = d
  · simp [e]
  · simp [e]

theorem getD_set (tmps : Array Value) (d : Nat) (u : Value) (j : Nat) (h : d < tmps.size) : (tmps.setIfInBounds d u).getD j undef = if j = d then u else tmps.getD j undef := by
  simp only [Array.getD_eq_getD_getElem?, Array.getElem?_setIfInBounds]
  by_cases e : d = j
  · subst e; simp [h]
  · simp [e, Ne.symm e]

theorem conc_bool_inv {v : AV} {b : Bool} (h : conc m v = some (.bool b)) : v = .bool b := by
  cases v with
  | bool c => simp [conc] at h; rw [h]
  | _ =>
    exfalso
    first
      | (simp [conc, undef] at h; done)
      | (simp only [conc] at h; split at h <;> first | (simp at h; done) | (cases h; done))
      | (unfold conc at h; split at h <;> simp_all <;> (repeat' split at h) <;> simp_all)

/-- The guard's temporary is at its place. -/
theorem wanted_eq {o : Oper} (h : ∀ j b g d, o.guard = some (j, b) → ops[j]? = some g → g.dst = some d → conc m (tget t d) = some (tmps.getD d undef)) :
    Region.wanted o (yielded ops tmps) = awanted ops t o := by
  unfold Region.wanted awanted
  cases hg : o.guard with
  | none => rfl
  | some jb =>
    obtain ⟨j, want⟩ := jb
    simp only [nthO_eq, Array.getElem?_toList]
    unfold yielded
    cases ho : ops[j]? with
    | none => simp
    | some g =>
      cases hd : g.dst with
      | none => simp [hd]
      | some d =>
        have hc := h j want g d hg ho hd
        simp only [Option.bind_some, hd]
        cases hv : tmps[d]? with
        | none =>
          rw [Array.getD_eq_getD_getElem?, hv] at hc
          simp only [Option.getD_none] at hc
          cases ht : tget t d with
          | bool b => rw [ht] at hc; simp [conc, undef] at hc
          | _ => simp
        | some v =>
          rw [Array.getD_eq_getD_getElem?, hv] at hc
          simp only [Option.getD_some] at hc
          cases ht : tget t d with
          | bool b => rw [ht] at hc; simp [conc] at hc; subst hc; simp
          | _ =>
            cases v with
            | bool b => have := conc_bool_inv hc; rw [ht] at this; cases this
            | _ => simp

theorem awanted_agree {t' : T AV} {o : Oper} (h : ∀ j b g d, o.guard = some (j, b) → ops[j]? = some g → g.dst = some d → tget t' d = tget t d) : awanted ops t' o = awanted ops t o := by
  unfold awanted
  cases hg : o.guard with
  | none => rfl
  | some jb =>
    obtain ⟨j, want⟩ := jb
    simp only [nthO_eq, Array.getElem?_toList]
    cases ho : ops[j]? with
    | none => rfl
    | some g =>
      cases hd : g.dst with
      | none => simp only [hd]
      | some d => simp only [hd, h j want g d hg ho hd]

/-! ### The patch: what the model hasn't come to is out of sight -/
def patchT (t : T AV) : List Nat → T AV
  | [] => t
  | d :: ds => (patchT t ds).set d (some .und)
def patchA (a : Array Value) : List Nat → Array Value
  | [] => a
  | d :: ds => (patchA a ds).setIfInBounds d undef
theorem patchT_get : ∀ (ds : List Nat) (j : Nat), tget (patchT t ds) j = if j ∈ ds then .und else tget t j
  | [], j => by simp [patchT]
  | d :: ds, j => by
    rw [patchT, tget_set, patchT_get ds j]
    by_cases e : j = d <;> simp [e]
theorem patchA_get : ∀ (ds : List Nat) (j : Nat), (patchA tmps ds).getD j undef = if j ∈ ds then undef else tmps.getD j undef
  | [], j => by simp [patchA]
  | d :: ds, j => by
    rw [patchA]
    have ih := patchA_get ds j
    simp only [Array.getD_eq_getD_getElem?, Array.getElem?_setIfInBounds] at ih ⊢
    by_cases e : d = j
    · subst e
      by_cases hs : d < (patchA tmps ds).size
      · simp [hs]
      · simp [hs]
    · rw [if_neg e, ih]; simp [Ne.symm e]

theorem patch_TR {ds : List Nat} (h : ∀ j, j ∉ ds → conc m (tget t j) = some (tmps.getD j undef)) : TR m (patchT t ds) (patchA tmps ds) := by
  intro j
  rw [patchT_get, patchA_get]
  by_cases hj : j ∈ ds
  · simp [hj, conc]
  · simp only [hj, if_false]; exact h j hj

theorem patch_Ag {ds : List Nat} {l : List Operand} (h : ∀ i ∈ tmpsIn l, i ∉ ds) : Ag t (patchT t ds) l := by
  intro i hi
  rw [patchT_get]; simp [h i hi]

theorem patch_exec {ds : List Nat} {o : Oper} (hs : ∀ cs b, o.op ≠ .select cs b) (h : ∀ i ∈ tmpsIn o.op.operands.toList, i ∉ ds) (df df' : List Deferred) :
    execOp (⟨tmps, df⟩ : Act).eval o = execOp (⟨patchA tmps ds, df'⟩ : Act).eval o := by
  refine execOp_congr o hs fun x hx => ?_
  cases x with
  | tmp i =>
    have := h i (tmpsIn_mem (by simpa using hx))
    simp only [Act.eval]
    rw [patchA_get]; simp [this]
  | _ => rfl

theorem cls_noselect {o : Oper} {v : AV} (h : apure P H t o = some v) : ∀ cs b, o.op ≠ .select cs b := by
  intro cs b e; simp [apure, e] at h
theorem fresh_noselect {o : Oper} {x : Fresh} (h : afresh P t o = some x) : ∀ cs b, o.op ≠ .select cs b := by
  intro cs b e; simp [afresh, e] at h
theorem act_noselect {o : Oper} {x : AR} (h : aact P H t o = some x) : ∀ cs b, o.op ≠ .select cs b := by
  intro cs b e; simp [aact, e] at h

/-- The temporaries that the model hasn't come to. -/
def pendD (done : List PStep) (L : List Nat) : List Nat := (done.filter fun p => decide (p.i ∈ L)).filterMap (·.o.dst)
theorem mem_pendD {done : List PStep} {L : List Nat} {d : Nat} : d ∈ pendD done L ↔ ∃ p ∈ done, p.i ∈ L ∧ p.o.dst = some d := by
  simp [pendD, and_assoc]

variable {lo hi size : Nat} {sus : Bool} {done rest : List PStep} {L : List Nat}

theorem Draw.ok (h : Draw P m H lo hi size ops sus t tmps done rest L) : PlanOk ops.toList (done ++ rest) := planDraw_ok h.plan

/-- An operation at the head: nothing that it reads is out of sight. -/
theorem Draw.sees {p : PStep} (h : Draw P m H lo hi size ops sus t tmps done rest (p.i :: L)) (hp : p ∈ done ++ rest) :
    (∀ j b g d, p.o.guard = some (j, b) → ops[j]? = some g → g.dst = some d → conc m (tget t d) = some (tmps.getD d undef)) ∧
    (∀ q ∈ done, q.i ∈ p.i :: L → q.i ∉ p.anc) := by
  have ok := h.ok
  have hanc := anc_of_head ok h.linv hp
  refine ⟨fun j b g d hg ho hd => h.rel d fun q hq hqL e => ?_, fun q hq hqL ha => hanc _ ha hqL⟩
  obtain ⟨dn, f, hsub⟩ := ok.facts' hp
  have hj := f.guard j b hg
  have hjL := hanc j hj
  obtain ⟨g', hg', e1⟩ := f.ancIn j hj
  have hg'' : g' ∈ done ++ rest := hsub g' hg'
  have hat := ok.at_ g' hg''
  rw [e1, Array.getElem?_toList, ho] at hat
  cases hat
  refine ok.dstNe (q := q) (p := g') (by simp [hq]) hg'' (fun e2 => ?_) e hd
  rw [e1] at e2
  rw [e2] at hqL
  exact hjL hqL

/-- The head of the list, if it is no active operation that has still to be planned, stands behind. -/
theorem Draw.head_done {i : Nat} (h : Draw P m H lo hi size ops sus t tmps done rest (i :: L)) (hr : rest = [] ∨ ∃ p r, rest = p :: r ∧ p.act = true ∧ p.i ≠ i) :
    ∃ q ∈ done, q.i = i := by
  have ok := h.ok
  obtain ⟨q, hq, rfl⟩ := ok.all i (h.linv.lt i (by simp))
  rcases List.mem_append.1 hq with h1 | h1
  · exact ⟨q, h1, rfl⟩
  · rcases hr with rfl | ⟨p, r, rfl, hact, hne⟩
    · simp at h1
    · rcases List.mem_cons.1 h1 with rfl | h2
      · exact absurd rfl hne
      · have hf := (ok.behind h2).act hact
        have := anc_of_head ok h.linv hq _ hf
        exact absurd (h.rin p (by simp)) this

end
end Go.AE
