/-
  A drawn order lists each operation once, behind what it hangs on.
-/
import Derived.Test.YtglmnkoophfllaaGreatDoorAEPlan
namespace Go.AE
open Go

theorem filter_lt {α : Type} {f g : α → Bool} : ∀ {l : List α}, (∀ x ∈ l, f x = true → g x = true) → (∃ x ∈ l, g x = true ∧ f x = false) → (l.filter f).length < (l.filter g).length
  | [], _, ⟨x, hx, _⟩ => by simp at hx
  | a :: l, h, ⟨x, hx, h1, h2⟩ => by
    have hle : (l.filter f).length ≤ (l.filter g).length := by
      have : ∀ (l : List α), (∀ x ∈ l, f x = true → g x = true) → (l.filter f).length ≤ (l.filter g).length := by
        intro l
        induction l with
        | nil => simp
        | cons b l ih =>
          intro h
          have hb := h b (by simp)
          have := ih fun x hx => h x (by simp [hx])
          simp only [List.filter_cons]
          cases hf : f b <;> cases hg : g b <;> simp_all
          all_goals omega
      exact this l fun x hx => h x (by simp [hx])
    simp only [List.filter_cons]
    rcases List.mem_cons.1 hx with rfl | hx
    · simp [h1, h2]; omega
    · have ih := filter_lt (l := l) (fun x hx => h x (by simp [hx])) ⟨x, hx, h1, h2⟩
      have ha := h a (by simp)
      cases hf : f a <;> cases hg : g a <;> simp_all
      all_goals omega

theorem deps_mem {o : Oper} {d : Nat} : d ∈ deps o ↔ ∃ e ∈ o.after, Region.binds .any e = true ∧ e.on = d := by
  unfold deps
  rw [List.mem_filterMap]
  constructor
  · rintro ⟨e, he, h⟩
    refine ⟨e, by simpa using he, ?_⟩
    obtain ⟨on, g⟩ := e
    cases g <;> simp_all [Region.binds]
  · rintro ⟨e, he, hb, rfl⟩
    refine ⟨e, by simpa using he, ?_⟩
    obtain ⟨on, g⟩ := e
    cases g <;> simp_all [Region.binds] <;> cases hb

/-- The edges go back. -/
def Back (ops : Array Oper) : Prop := ∀ (i : Nat) (o : Oper), ops[i]? = some o → ∀ d ∈ deps o, d < i

def unl (ops : Array Oper) (listed : Array Bool) : List Nat := (List.range ops.size).filter fun i => !listed.getD i true

theorem unl_mem {ops : Array Oper} {listed : Array Bool} {i : Nat} : i ∈ unl ops listed ↔ i < ops.size ∧ listed.getD i true = false := by
  simp [unl]

theorem ready_some {ops : Array Oper} (hb : Back ops) {listed : Array Bool} (hs : listed.size = ops.size) (hu : unl ops listed ≠ []) : Region.ready .any ops listed ≠ [] := by
  have : ∃ i, i ∈ unl ops listed := List.exists_mem_of_ne_nil _ hu
  -- the least one
  have : ∃ i, i ∈ unl ops listed ∧ ∀ j < i, j ∉ unl ops listed := by
    obtain ⟨i, hi⟩ := this
    induction i using Nat.strongRecOn with
    | ind i ih =>
      by_cases h : ∃ j < i, j ∈ unl ops listed
      · obtain ⟨j, hj, hm⟩ := h; exact ih j hj hm
      · exact ⟨i, hi, fun j hj hm => h ⟨j, hj, hm⟩⟩
  obtain ⟨i, hi, hl⟩ := this
  obtain ⟨h1, h2⟩ := unl_mem.1 hi
  have hm : i ∈ Region.ready .any ops listed := by
    rw [mem_ready]
    refine ⟨h2, ops[i], by simp [h1], fun e he hbd => ?_⟩
    have hlt := hb i ops[i] (by simp [h1]) e.on (deps_mem.2 ⟨e, he, hbd, rfl⟩)
    have := hl e.on hlt
    rw [unl_mem] at this
    have hlt' : e.on < listed.size := by omega
    have h3 : ¬ (listed.getD e.on true = false) := fun h => this ⟨by omega, h⟩
    simp [hlt'] at h3 ⊢
    exact h3
  exact List.ne_nil_of_mem hm

theorem go_order {ops : Array Oper} (hb : Back ops) : ∀ (fuel t : Nat) (listed : Array Bool), listed.size = ops.size → (unl ops listed).length ≤ fuel →
    let L := Region.linearise.go .any ops fuel t listed []
    L.Nodup ∧ (∀ i, i ∈ L ↔ i ∈ unl ops listed) ∧ LV ops.toList L := by
  intro fuel
  induction fuel with
  | zero =>
    intro t listed hs hl
    have : unl ops listed = [] := List.length_eq_zero_iff.1 (Nat.le_zero.1 hl)
    simp [Region.linearise.go, this, LV]
  | succ fuel ih =>
    intro t listed hs hl
    simp only [Region.linearise.go]
    change let L := (match (Region.ready .any ops listed)[t % (Region.ready .any ops listed).length]? with
      | some i => Region.linearise.go .any ops fuel (t / (Region.ready .any ops listed).length) (listed.setIfInBounds i true) [i]
      | none => [].reverse)
      L.Nodup ∧ (∀ i, i ∈ L ↔ i ∈ unl ops listed) ∧ LV ops.toList L
    cases hi : (Region.ready .any ops listed)[t % (Region.ready .any ops listed).length]? with
    | none =>
      have hnil : unl ops listed = [] := by
        apply Classical.byContradiction
        intro h
        have hne := ready_some hb hs h
        have hlt : t % (Region.ready .any ops listed).length < (Region.ready .any ops listed).length := Nat.mod_lt _ (List.length_pos_iff.2 hne)
        rw [List.getElem?_eq_none_iff] at hi
        omega
      simp [hnil, LV]
    | some i =>
      have hr : i ∈ Region.ready .any ops listed := List.mem_of_getElem? hi
      obtain ⟨h0, o, ho, hall⟩ := mem_ready.1 hr
      have hlt : i < ops.size := (Array.getElem?_eq_some_iff.1 ho).1
      have hiu : i ∈ unl ops listed := unl_mem.2 ⟨hlt, h0⟩
      have hmem : ∀ j, j ∈ unl ops (listed.setIfInBounds i true) ↔ j ∈ unl ops listed ∧ j ≠ i := by
        intro j
        rw [unl_mem, unl_mem]
        by_cases e : j = i
        · subst e; simp [hs, hlt]
        · rw [getD_set_ne true (Ne.symm e)]; simp [e]
      have hless : (unl ops (listed.setIfInBounds i true)).length < (unl ops listed).length := by
        refine filter_lt (fun x hx h => ?_) ⟨i, by simpa using hlt, by simpa using h0, by simp [hs, hlt]⟩
        have := (hmem x).1 (unl_mem.2 ⟨by simpa using hx, by simpa using h⟩)
        have := (unl_mem.1 this.1).2
        simpa using this
      obtain ⟨n1, n2, n3⟩ := ih (t / (Region.ready .any ops listed).length) (listed.setIfInBounds i true) (by simp [hs]) (by omega)
      simp only []
      rw [linearise_go_acc, List.reverse_singleton, List.singleton_append]
      refine ⟨List.nodup_cons.2 ⟨fun h => ((hmem i).1 ((n2 i).1 h)).2 rfl, n1⟩, fun j => ?_, ?_⟩
      · rw [List.mem_cons, n2, hmem]
        by_cases e : j = i
        · subst e; simp [hiu]
        · simp [e]
      · refine ⟨fun o' ho' d hd hm => ?_, n3⟩
        rw [Array.getElem?_toList] at ho'
        rw [ho] at ho'
        cases ho'
        obtain ⟨e, he, hbd, rfl⟩ := deps_mem.1 hd
        have hld := hall e he hbd
        rcases List.mem_cons.1 hm with h | h
        · have := hb i o ho e.on hd; omega
        · have := ((hmem e.on).1 ((n2 _).1 h)).1
          have h1 := unl_mem.1 this
          have hlt' : e.on < listed.size := by omega
          have h2 := h1.2
          simp [hlt'] at h2 hld
          rw [h2] at hld; cases hld

theorem schedule_inv {ops : Array Oper} (hb : Back ops) (t : Nat) : LInv ops.toList (Region.schedule true ops t) ∧ ∀ i, i < ops.size → i ∈ Region.schedule true ops t := by
  simp only [Region.schedule, Bool.true_or, if_true, Region.linearise]
  have hu : ∀ i, i ∈ unl ops (Array.replicate ops.size false) ↔ i < ops.size := by
    intro i
    rw [unl_mem]
    constructor
    · exact fun h => h.1
    · intro h; simp [h]
  have hlen : (unl ops (Array.replicate ops.size false)).length ≤ ops.size := by
    unfold unl; exact Nat.le_trans (List.length_filter_le _ _) (by simp)
  obtain ⟨n1, n2, n3⟩ := go_order hb ops.size t (Array.replicate ops.size false) (by simp) hlen
  refine ⟨⟨n1, fun i hi => by simpa using (hu i).1 ((n2 i).1 hi), fun i o ho hn => ?_, n3⟩, fun i hi => (n2 i).2 ((hu i).2 hi)⟩
  have : i < ops.size := by
    have := (List.getElem?_eq_some_iff.1 ho).1
    simpa using this
  exact absurd ((n2 i).2 ((hu i).2 this)) hn

theorem infos_back {full : List Oper} : ∀ (os pre : List Oper) (na : Nat) (acc l : List OI), full = pre ++ os → infos os pre.length na acc = some l →
    ∀ (i : Nat) (o : Oper), pre.length ≤ i → full[i]? = some o → ∀ d ∈ deps o, d < i
  | [], pre, na, acc, l, hf, h, i, o, hi, ho => by
    subst hf
    have := (List.getElem?_eq_some_iff.1 ho).1
    simp at this; omega
  | o :: os, pre, na, acc, l, hf, h, i, o', hi, ho => by
    have hall : ∀ {n : Nat} {l : List Nat}, allBelow n l = true → ∀ d ∈ l, d < n := by
      intro n l
      induction l with
      | nil => simp
      | cons x l ih =>
        intro h d hd
        unfold allBelow at h
        split at h
        · rename_i h1
          rcases List.mem_cons.1 hd with rfl | hd
          · simpa [Nat.blt_eq] using h1
          · exact ih h d hd
        · simp at h
    simp only [infos] at h
    split at h
    · simp at h
    · rename_i h0
      split at h
      · simp at h
      · by_cases e : i = pre.length
        · subst e
          subst hf
          simp at ho
          subst ho
          exact hall h0
        · exact infos_back os (pre ++ [o]) _ _ l (by simp [hf]) (by simpa using h) i o' (by simp; omega) ho

theorem planDraw_back {ops : Array Oper} {ps : List PStep} (h : planDraw ops.toList = some ps) : Back ops := by
  unfold planDraw at h
  split at h
  · simp at h
  · rename_i l hl
    intro i o ho
    exact infos_back (full := ops.toList) ops.toList [] 0 [] l (by simp) (by simpa using hl) i o (by simp) (by simpa using ho)

end Go.AE
