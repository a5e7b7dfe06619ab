/-
  What a drawn region's plan gives: each operation stands once, behind what it hangs on.
-/
import Derived.Test.YtglmnkoophfllaaGreatDoorAEDef
import Derived.Orders
namespace Go.AE
open Go

theorem memN_iff {n : Nat} : ∀ {l : List Nat}, memN n l = true ↔ n ∈ l
  | [] => by simp [memN]
  | x :: xs => by
    unfold memN
    cases h : Nat.beq n x with
    | true => simp [Nat.eq_of_beq_eq_true h]
    | false => have := Nat.ne_of_beq_eq_false h; simp [this, memN_iff]
theorem nthO_eq : ∀ (l : List Oper) (i : Nat), nthO l i = l[i]?
  | [], i => by simp [nthO]
  | x :: l, 0 => by simp [nthO]
  | x :: l, i + 1 => by simp [nthO, nthO_eq l i]

theorem inPlan_iff {i : Nat} : ∀ {l : List PStep}, inPlan i l = true ↔ ∃ p ∈ l, p.i = i
  | [] => by simp [inPlan]
  | p :: ps => by
    unfold inPlan
    cases h : Nat.beq p.i i with
    | true => simp [Nat.eq_of_beq_eq_true h]
    | false => have := Nat.ne_of_beq_eq_false h; simp [this, inPlan_iff]
theorem ancFrom_iff {a : Nat} {ds : List Nat} : ∀ {l : List PStep}, ancFrom a ds l = true → ∃ q ∈ l, q.i ∈ ds ∧ a ∈ q.anc
  | [], h => by simp [ancFrom] at h
  | q :: qs, h => by
    unfold ancFrom at h
    split at h
    · rename_i h1; simp [memN_iff] at h1; exact ⟨q, by simp, h1⟩
    · obtain ⟨x, hx, h2⟩ := ancFrom_iff h; exact ⟨x, by simp [hx], h2⟩
theorem ancsOk_iff {done : List PStep} {ds : List Nat} : ∀ {l : List Nat}, ancsOk done ds l = true → ∀ a ∈ l, (∃ q ∈ done, q.i = a) ∧ (a ∈ ds ∨ ∃ q ∈ done, q.i ∈ ds ∧ a ∈ q.anc)
  | [], _, a, ha => by simp at ha
  | x :: l, h, a, ha => by
    unfold ancsOk at h
    split at h
    · rename_i h1
      simp [memN_iff, inPlan_iff] at h1
      rcases List.mem_cons.1 ha with rfl | ha
      · exact ⟨h1.1, h1.2.imp id ancFrom_iff⟩
      · exact ancsOk_iff h a ha
    · simp at h
theorem subN_iff : ∀ {l r : List Nat}, subN l r = true → ∀ a ∈ l, a ∈ r
  | [], _, _, a, ha => by simp at ha
  | x :: l, r, h, a, ha => by
    unfold subN at h
    split at h
    · rename_i h1
      rcases List.mem_cons.1 ha with rfl | ha
      · exact memN_iff.1 h1
      · exact subN_iff h a ha
    · simp at h
theorem pairsOk_iff {p : PStep} : ∀ {l : List PStep}, pairsOk p l = true → ∀ q ∈ l, pairOk q p = true
  | [], _, q, hq => by simp at hq
  | x :: l, h, q, hq => by
    unfold pairsOk at h
    split at h
    · rename_i h1
      rcases List.mem_cons.1 hq with rfl | hq
      · exact h1
      · exact pairsOk_iff h q hq
    · simp at h

theorem okFrom_split : ∀ (A : List PStep) {d : List PStep} {p : PStep} {B : List PStep}, okFrom d (A ++ p :: B) = true →
    stepOk (A.reverse ++ d) p = true ∧ ∀ q ∈ A.reverse ++ d, pairOk q p = true
  | [], d, p, B, h => by
    simp only [List.nil_append, okFrom] at h
    split at h
    · rename_i h1
      simp at h1
      exact ⟨by simpa using h1.1, by simpa using pairsOk_iff h1.2⟩
    · simp at h
  | a :: A, d, p, B, h => by
    simp only [List.cons_append, okFrom] at h
    split at h
    · have := okFrom_split A h
      simpa using this
    · simp at h

theorem coverB_iff {ps : List PStep} : ∀ {n : Nat}, coverB ps n = true → ∀ i, i < n → ∃ p ∈ ps, p.i = i
  | 0, _, i, hi => absurd hi (Nat.not_lt_zero _)
  | n + 1, h, i, hi => by
    unfold coverB at h
    split at h
    · rename_i h1
      rcases Nat.lt_succ_iff_lt_or_eq.1 hi with hi | rfl
      · exact coverB_iff h i hi
      · exact inPlan_iff.1 h1
    · simp at h

/-! Each step of the plan is an operation of the region. -/
def OIok (full : List Oper) (l : List OI) : Prop := ∀ x ∈ l, full[x.i]? = some x.o
theorem infos_ok {full : List Oper} : ∀ (os pre : List Oper) (na : Nat) (acc l : List OI), full = pre ++ os → infos os pre.length na acc = some l → OIok full acc → OIok full l
  | [], pre, na, acc, l, _, h, ha => by simp [infos] at h; exact h ▸ ha
  | o :: os, pre, na, acc, l, hf, h, ha => by
    simp only [infos] at h
    split at h
    · simp at h
    · split at h
      · simp at h
      · refine infos_ok os (pre ++ [o]) _ _ l (by simp [hf]) (by simpa using h) ?_
        intro x hx
        rcases List.mem_cons.1 hx with rfl | hx
        · simp [hf]
        · exact ha x hx
theorem revOI_mem {x : OI} : ∀ {l acc : List OI}, x ∈ revOI l acc → x ∈ l ∨ x ∈ acc
  | [], acc, h => .inr h
  | y :: l, acc, h => by
    rcases revOI_mem (l := l) h with h | h
    · exact .inl (by simp [h])
    · rcases List.mem_cons.1 h with rfl | h
      · exact .inl (by simp)
      · exact .inr h
def FromOI (l : List OI) (p : PStep) : Prop := ∃ x ∈ l, p.i = x.i ∧ p.o = x.o
theorem quietAt_from {n : Nat} {p : PStep} : ∀ {l : List OI}, p ∈ quietAt n l → FromOI l p
  | [], h => by simp [quietAt] at h
  | x :: l, h => by
    unfold quietAt at h
    split at h
    · rcases List.mem_cons.1 h with rfl | h
      · exact ⟨x, by simp, rfl, rfl⟩
      · obtain ⟨y, hy, e⟩ := quietAt_from h; exact ⟨y, by simp [hy], e⟩
    · obtain ⟨y, hy, e⟩ := quietAt_from h; exact ⟨y, by simp [hy], e⟩
theorem activeAt_from {n : Nat} {all : List OI} {p : PStep} : ∀ {l : List OI}, p ∈ activeAt n all l → FromOI l p
  | [], h => by simp [activeAt] at h
  | x :: l, h => by
    unfold activeAt at h
    split at h
    · simp at h; subst h; exact ⟨x, by simp, rfl, rfl⟩
    · obtain ⟨y, hy, e⟩ := activeAt_from h; exact ⟨y, by simp [hy], e⟩
theorem eager_from {l : List OI} {p : PStep} : ∀ {k n : Nat}, p ∈ eager l k n → FromOI l p
  | 0, n, h => quietAt_from h
  | k + 1, n, h => by
    simp only [eager, List.mem_append] at h
    rcases h with h | h | h
    · exact quietAt_from h
    · exact activeAt_from h
    · exact eager_from h

/-- The facts of a plan. -/
structure PlanOk (ops : List Oper) (ps : List PStep) : Prop where
  ok : okFrom [] ps = true
  at_ : ∀ p ∈ ps, ops[p.i]? = some p.o
  all : ∀ i, i < ops.length → ∃ p ∈ ps, p.i = i

theorem planDraw_ok {ops : List Oper} {ps : List PStep} (h : planDraw ops = some ps) : PlanOk ops ps := by
  unfold planDraw at h
  split at h
  · simp at h
  · rename_i l hl
    simp only at h
    split at h
    · rename_i h1
      simp at h1 h
      obtain ⟨h2, h3⟩ := h1
      refine ⟨by rw [← h]; exact h2, fun p hp => ?_, by rw [← h]; exact coverB_iff h3⟩
      rw [← h] at hp
      obtain ⟨x, hx, e1, e2⟩ := eager_from hp
      have hx' : x ∈ l := by rcases revOI_mem hx with h | h; exact h; simp at h
      have := infos_ok (full := ops) ops [] 0 [] l (by simp) (by simpa using hl) (by intro x hx; simp at hx) x hx'
      rw [e1, e2]; exact this
    · simp at h

section
variable {ops : List Oper} {done rest : List PStep} {p : PStep}

structure SFacts (done : List PStep) (p : PStep) : Prop where
  ancIn : ∀ a ∈ p.anc, ∃ q ∈ done, q.i = a
  anc : ∀ a ∈ p.anc, a ∈ deps p.o ∨ ∃ q ∈ done, q.i ∈ deps p.o ∧ a ∈ q.anc
  deps : ∀ a ∈ deps p.o, a ∈ p.anc
  guard : ∀ j b, p.o.guard = some (j, b) → j ∈ p.anc
  act : p.act = isAct p.o
  dst : p.act = false → ∃ d, p.o.dst = some d ∧ d ∉ tmpsIn p.o.op.operands.toList

theorem stepOk_facts (h : stepOk done p = true) : SFacts done p := by
  unfold stepOk at h
  simp only [Bool.and_eq_true, beq_iff_eq] at h
  obtain ⟨⟨⟨⟨h1, h2⟩, h3⟩, h4⟩, h5⟩ := h
  refine ⟨fun a ha => (ancsOk_iff h1 a ha).1, fun a ha => (ancsOk_iff h1 a ha).2, subN_iff h2, ?_, h4, ?_⟩
  · intro j b hg; simp only [guardIn, hg] at h3; exact memN_iff.1 h3
  · intro ha
    simp only [ha] at h5
    split at h5
    · simp at h5
    · rename_i d hd
      refine ⟨d, hd, fun hm => ?_⟩
      rw [memN_iff.2 hm] at h5
      simp at h5

theorem PlanOk.facts (h : PlanOk ops (done ++ p :: rest)) : SFacts done p := by
  have := (okFrom_split done h.ok).1
  rw [List.append_nil] at this
  have f := stepOk_facts this
  exact ⟨fun a ha => let ⟨q, hq, e⟩ := f.ancIn a ha; ⟨q, by simpa using hq, e⟩, fun a ha => (f.anc a ha).imp id fun ⟨q, hq, e⟩ => ⟨q, by simpa using hq, e⟩, f.deps, f.guard, f.act, f.dst⟩
theorem PlanOk.pair (h : PlanOk ops (done ++ p :: rest)) : ∀ q ∈ done, pairOk q p = true := fun q hq =>
  (okFrom_split done h.ok).2 q (by simpa using hq)

theorem PlanOk.facts' {ps : List PStep} (h : PlanOk ops ps) (hp : p ∈ ps) : ∃ d, SFacts d p ∧ (∀ q ∈ d, q ∈ ps) := by
  obtain ⟨d, r, rfl⟩ := List.append_of_mem hp
  exact ⟨d, h.facts, fun q hq => by simp [hq]⟩

/-- q stands ahead of p. -/
structure PFacts (q p : PStep) : Prop where
  ne : q.i ≠ p.i
  dst : ∀ d, q.o.dst = some d → p.o.dst ≠ some d
  act : q.act = true → q.i ∈ p.anc
  write : q.act = false → ∀ d, p.o.dst = some d → d ∈ tmpsIn q.o.op.operands.toList → p.act = true ∧ q.i ∈ p.anc
  read : q.act = false → ∀ d, q.o.dst = some d → d ∈ tmpsIn p.o.op.operands.toList → q.i ∈ p.anc
  re : q.act = false → p.act = true → looks q.o.op = true → q.i ∈ p.anc ∨ q.i ∈ p.re

theorem pairOk_facts {q p : PStep} (h : pairOk q p = true) : PFacts q p := by
  unfold pairOk at h
  simp only [Bool.and_eq_true] at h
  obtain ⟨⟨h1, h2⟩, h3⟩ := h
  refine ⟨fun e => ?_, fun d hd hd' => ?_, fun ha => ?_, fun ha d hd hm => ?_, fun ha d hd hm => ?_, fun ha hp hl => ?_⟩
  · rw [e] at h1; simp at h1
  · rw [hd, hd'] at h2; simp [dstSame] at h2
  · simp only [ha] at h3; exact memN_iff.1 h3
  · simp only [ha, Bool.and_eq_true] at h3
    have := h3.1.1
    simp only [dstIs, hd, memN_iff.2 hm, Bool.not_true, Bool.false_or, Bool.and_eq_true] at this
    exact ⟨this.1, memN_iff.1 this.2⟩
  · simp only [ha, Bool.and_eq_true] at h3
    have := h3.1.2
    simp only [dstIs, hd, memN_iff.2 hm, Bool.not_true, Bool.false_or] at this
    exact memN_iff.1 this
  · simp only [ha, Bool.and_eq_true] at h3
    have := h3.2
    simp only [hp, hl, Bool.not_true, Bool.false_or, Bool.or_eq_true] at this
    exact this.imp memN_iff.1 memN_iff.1

theorem PlanOk.before (h : PlanOk ops (done ++ p :: rest)) {q : PStep} (hq : q ∈ done) : PFacts q p := pairOk_facts (h.pair q hq)
theorem PlanOk.behind (h : PlanOk ops (done ++ p :: rest)) {q : PStep} (hq : q ∈ rest) : PFacts p q := by
  obtain ⟨a, b, rfl⟩ := List.append_of_mem hq
  have h' : PlanOk ops ((done ++ p :: a) ++ q :: b) := by simpa using h
  exact h'.before (by simp)
/-- Two steps of one plan: the same, or one ahead of the other. -/
theorem PlanOk.or {ps : List PStep} (h : PlanOk ops ps) {q : PStep} (hq : q ∈ ps) (hp : p ∈ ps) : q = p ∨ PFacts q p ∨ PFacts p q := by
  obtain ⟨a, b, rfl⟩ := List.append_of_mem hp
  rcases List.mem_append.1 hq with hq | hq
  · exact .inr (.inl (h.before hq))
  · rcases List.mem_cons.1 hq with rfl | hq
    · exact .inl rfl
    · exact .inr (.inr (h.behind hq))
theorem PlanOk.dstNe {ps : List PStep} (h : PlanOk ops ps) {q : PStep} (hq : q ∈ ps) (hp : p ∈ ps) (hne : q.i ≠ p.i) {d : Nat} (hd : q.o.dst = some d) : p.o.dst ≠ some d := by
  rcases h.or hq hp with rfl | h | h
  · exact absurd rfl hne
  · exact h.dst d hd
  · exact fun e => h.dst d e hd
theorem PlanOk.eq {ps : List PStep} (h : PlanOk ops ps) {q : PStep} (hq : q ∈ ps) (hp : p ∈ ps) (he : q.i = p.i) : q = p := by
  rcases h.or hq hp with rfl | h | h
  · rfl
  · exact absurd he h.ne
  · exact absurd he.symm h.ne
end

/-! ### The list of what is still to come -/
def LV (ops : List Oper) : List Nat → Prop
  | [] => True
  | i :: L => (∀ o, ops[i]? = some o → ∀ d ∈ deps o, d ∉ i :: L) ∧ LV ops L

structure LInv (ops : List Oper) (L : List Nat) : Prop where
  nodup : L.Nodup
  lt : ∀ i ∈ L, i < ops.length
  closed : ∀ i o, ops[i]? = some o → i ∉ L → ∀ d ∈ deps o, d ∉ L
  lv : LV ops L

theorem LInv.tail {ops : List Oper} {i : Nat} {L : List Nat} (h : LInv ops (i :: L)) : LInv ops L := by
  refine ⟨(List.nodup_cons.1 h.nodup).2, fun j hj => h.lt j (by simp [hj]), fun j o ho hj d hd => ?_, h.lv.2⟩
  by_cases e : j = i
  · subst e; exact fun hm => h.lv.1 o ho d hd (by simp [hm])
  · exact fun hm => h.closed j o ho (by simp [e, hj]) d hd (by simp [hm])

theorem anc_clear {ops : List Oper} {L : List Nat} {ps : List PStep} (hp : PlanOk ops ps) (hcl : ∀ i o, ops[i]? = some o → i ∉ L → ∀ d ∈ deps o, d ∉ L) :
    ∀ (n : Nat) (done rest : List PStep) (p : PStep), done.length = n → ps = done ++ p :: rest → (∀ d ∈ deps p.o, d ∉ L) → ∀ a ∈ p.anc, a ∉ L := by
  intro n
  induction n using Nat.strongRecOn with
  | ind n ih =>
    intro done rest p hn hps hd a ha
    subst hps
    rcases hp.facts.anc a ha with h | ⟨q, hq, h1, h2⟩
    · exact hd a h
    · obtain ⟨d1, d2, rfl⟩ := List.append_of_mem hq
      refine ih d1.length (by simp at hn; omega) d1 (d2 ++ p :: rest) q rfl (by simp) ?_ a h2
      exact hcl q.i q.o (hp.at_ q (by simp)) (hd _ h1)

/-- What an operation that has run hangs on has run. -/
theorem anc_of_ran {ops : List Oper} {L : List Nat} {ps : List PStep} (hp : PlanOk ops ps) (hl : LInv ops L) {p : PStep} (hm : p ∈ ps) (hr : p.i ∉ L) : ∀ a ∈ p.anc, a ∉ L := by
  obtain ⟨d, r, rfl⟩ := List.append_of_mem hm
  exact anc_clear hp hl.closed d.length d r p rfl rfl (hl.closed p.i p.o (hp.at_ p hm) hr)
theorem anc_of_head {ops : List Oper} {L : List Nat} {ps : List PStep} (hp : PlanOk ops ps) {p : PStep} (hl : LInv ops (p.i :: L)) (hm : p ∈ ps) : ∀ a ∈ p.anc, a ∉ p.i :: L := by
  obtain ⟨d, r, rfl⟩ := List.append_of_mem hm
  exact anc_clear hp hl.closed d.length d r p rfl rfl (hl.lv.1 p.o (hp.at_ p hm))

end Go.AE
