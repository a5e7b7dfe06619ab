/-
  The abstract machine's frames against the model's.
-/
import Derived.Test.YtglmnkoophfllaaGreatDoorAEReg3
import Derived.Defers
import Derived.Recover
namespace Go.AE
open Go

def IRel (m : MP) : AItem → Item → Prop
  | .code c, .code c' => c = c'
  | .inBlock i, .inBlock i' => i = i'
  | .inScope b, .inScope b' => b = b'
  | .inLoop b, .inLoop b' => b = b'
  | .inRangeFunc l, .inRangeFunc l' => ∃ y, m l = some y ∧ l' = y.c
  | .endRangeFunc l, .endRangeFunc l' => ∃ y, m l = some y ∧ l' = y.c
  | .beginRound, .beginRound => True
  | _, _ => False
inductive KR (m : MP) : List AItem → List Item → Prop
  | nil : KR m [] []
  | cons {x : AItem} {y : Item} {k : List AItem} {k' : List Item} : IRel m x y → KR m k k' → KR m (x :: k) (y :: k')

theorem IRel.mono {m m' : MP} (h : Ext m m') {x : AItem} {y : Item} (hr : IRel m x y) : IRel m' x y := by
  cases x <;> cases y <;> simp only [IRel] at hr ⊢ <;> first | exact hr | (obtain ⟨z, h1, h2⟩ := hr; exact ⟨z, h _ _ h1, h2⟩)
theorem KR.mono {m m' : MP} (h : Ext m m') {k : List AItem} {l : List Item} (hr : KR m k l) : KR m' k l := by
  induction hr with
  | nil => exact .nil
  | cons h1 _ ih => exact .cons (h1.mono h) ih

def ROR (m : MP) : Option Nat → Option Nat → Prop
  | none, none => True
  | some l, some l' => ∃ y, m l = some y ∧ l' = y.c
  | _, _ => False
theorem ROR.mono {m m' : MP} (h : Ext m m') {a b : Option Nat} (hr : ROR m a b) : ROR m' a b := by
  cases a <;> cases b <;> simp only [ROR] at hr ⊢ <;> first | exact hr | (obtain ⟨z, h1, h2⟩ := hr; exact ⟨z, h _ _ h1, h2⟩)
theorem ROR.none' {m : MP} {b : Option Nat} (h : ROR m none b) : b = none := by
  cases b with
  | none => rfl
  | some _ => exact h.elim

section
variable {P : Program} {w0 : World} {m m' : MP} {H H' : AH} {w w' : World} {ops : Array Oper} {t t' : T AV} {tmps : Array Value} {lo hi size : Nat} {dr sus : Bool} {rest : List PStep} {L : List Nat}

theorem KR.code {c : Code} {k : List AItem} {l : List Item} (h : KR m (.code c :: k) l) : ∃ k', l = .code c :: k' ∧ KR m k k' := by
  cases h with
  | cons h1 h2 =>
    rename_i y k'
    cases y <;> simp only [IRel] at h1
    subst h1; exact ⟨_, rfl, h2⟩
theorem KR.block {i : Nat} {k : List AItem} {l : List Item} (h : KR m (.inBlock i :: k) l) : ∃ k', l = .inBlock i :: k' ∧ KR m k k' := by
  cases h with
  | cons h1 h2 =>
    rename_i y k'
    cases y <;> simp only [IRel] at h1
    subst h1; exact ⟨_, rfl, h2⟩
theorem KR.scope {c : Code} {k : List AItem} {l : List Item} (h : KR m (.inScope c :: k) l) : ∃ k', l = .inScope c :: k' ∧ KR m k k' := by
  cases h with
  | cons h1 h2 =>
    rename_i y k'
    cases y <;> simp only [IRel] at h1
    subst h1; exact ⟨_, rfl, h2⟩
theorem KR.loop {c : Code} {k : List AItem} {l : List Item} (h : KR m (.inLoop c :: k) l) : ∃ k', l = .inLoop c :: k' ∧ KR m k k' := by
  cases h with
  | cons h1 h2 =>
    rename_i y k'
    cases y <;> simp only [IRel] at h1
    subst h1; exact ⟨_, rfl, h2⟩
theorem KR.inRange {i : Nat} {k : List AItem} {l : List Item} (h : KR m (.inRangeFunc i :: k) l) : ∃ y k', l = .inRangeFunc y.c :: k' ∧ m i = some y ∧ KR m k k' := by
  cases h with
  | cons h1 h2 =>
    rename_i y k'
    cases y <;> simp only [IRel] at h1
    obtain ⟨y, h3, rfl⟩ := h1; exact ⟨y, _, rfl, h3, h2⟩
theorem KR.endRange {i : Nat} {k : List AItem} {l : List Item} (h : KR m (.endRangeFunc i :: k) l) : ∃ y k', l = .endRangeFunc y.c :: k' ∧ m i = some y ∧ KR m k k' := by
  cases h with
  | cons h1 h2 =>
    rename_i y k'
    cases y <;> simp only [IRel] at h1
    obtain ⟨y, h3, rfl⟩ := h1; exact ⟨y, _, rfl, h3, h2⟩
theorem KR.begin_ {k : List AItem} {l : List Item} (h : KR m (.beginRound :: k) l) : ∃ k', l = .beginRound :: k' ∧ KR m k k' := by
  cases h with
  | cons h1 h2 =>
    rename_i y k'
    cases y <;> simp only [IRel] at h1
    exact ⟨_, rfl, h2⟩
theorem KR.empty {l : List Item} (h : KR m [] l) : l = [] := by cases h; rfl

theorem aexitTo_sound {id : Nat} : ∀ {k k1 : List AItem} {l : List Item}, KR m k l → aexitTo id k = some k1 → ∃ l1, exitTo id l = some l1 ∧ KR m k1 l1
  | [], k1, l, _, h => by simp [aexitTo] at h
  | x :: k, k1, l, hk, h => by
    cases hk with
    | cons h1 h2 =>
      rename_i y l
      cases x with
      | inBlock i =>
        cases y <;> simp only [IRel] at h1
        subst h1
        simp only [aexitTo] at h
        cases hb : Nat.beq i id with
        | true => simp [hb] at h; subst h; have := Nat.eq_of_beq_eq_true hb; subst this; exact ⟨l, by simp [exitTo], h2⟩
        | false =>
          simp [hb] at h
          obtain ⟨l1, e1, e2⟩ := aexitTo_sound h2 h
          have := Nat.ne_of_beq_eq_false hb
          exact ⟨l1, by simp [exitTo, this]; exact e1, e2⟩
      | code c =>
        cases y <;> simp only [IRel] at h1
        obtain ⟨l1, e1, e2⟩ := aexitTo_sound h2 (by simpa [aexitTo] using h)
        exact ⟨l1, by simpa [exitTo] using e1, e2⟩
      | inLoop c =>
        cases y <;> simp only [IRel] at h1
        obtain ⟨l1, e1, e2⟩ := aexitTo_sound h2 (by simpa [aexitTo] using h)
        exact ⟨l1, by simpa [exitTo] using e1, e2⟩
      | inScope c =>
        cases y <;> simp only [IRel] at h1
        obtain ⟨l1, e1, e2⟩ := aexitTo_sound h2 (by simpa [aexitTo] using h)
        exact ⟨l1, by simpa [exitTo] using e1, e2⟩
      | reg => cases y <;> simp only [IRel] at h1
      | inRangeFunc c =>
        cases y <;> simp only [IRel] at h1
        obtain ⟨l1, e1, e2⟩ := aexitTo_sound h2 (by simpa [aexitTo] using h)
        exact ⟨l1, by simpa [exitTo] using e1, e2⟩
      | endRangeFunc c =>
        cases y <;> simp only [IRel] at h1
        obtain ⟨l1, e1, e2⟩ := aexitTo_sound h2 (by simpa [aexitTo] using h)
        exact ⟨l1, by simpa [exitTo] using e1, e2⟩
      | beginRound =>
        cases y <;> simp only [IRel] at h1
        obtain ⟨l1, e1, e2⟩ := aexitTo_sound h2 (by simpa [aexitTo] using h)
        exact ⟨l1, by simpa [exitTo] using e1, e2⟩

theorem aexitTo_none {id : Nat} : ∀ {k : List AItem} {l : List Item}, KR m k l → aexitTo id k = none → exitTo id l = none
  | [], l, hk, h => by rw [hk.empty]; rfl
  | x :: k, l, hk, h => by
    cases hk with
    | cons h1 h2 =>
      rename_i y l
      cases x with
      | inBlock i =>
        cases y <;> simp only [IRel] at h1
        subst h1
        simp only [aexitTo] at h
        cases hb : Nat.beq i id with
        | true => simp [hb] at h
        | false =>
          simp [hb] at h
          have := Nat.ne_of_beq_eq_false hb
          simp [exitTo, this]; exact aexitTo_none h2 h
      | reg => cases y <;> simp only [IRel] at h1
      | _ =>
        cases y <;> simp only [IRel] at h1
        have := aexitTo_none h2 (by simpa [aexitTo] using h)
        simpa [exitTo] using this

def TodoR (P : Program) (m : MP) (H : AH) (lo hi size : Nat) (sus : Bool) : List AItem → T AV → List Item → Array Value → Prop
  | .reg ops dr rest :: k, t, todo', tmps => ∃ L k', todo' = .inRegion ops L :: k' ∧ KR m k k' ∧ RegR P m H lo hi size ops dr sus rest t tmps L ∧
      (sus = true → ∃ p r L2, rest = p :: r ∧ (dr = true → p.act = true) ∧ L = p.i :: L2)
  | .inRangeFunc l :: k, t, todo', tmps => ∃ y k', m l = some y ∧ todo' = .inRangeFunc y.c :: k' ∧ KR m k k' ∧ TR m t tmps
  | todo, t, todo', tmps => sus = false ∧ KR m todo todo' ∧ TR m t tmps

theorem TodoR.of {k : List AItem} {l : List Item} (hk : KR m k l) (ht : TR m t tmps) : TodoR P m H lo hi size false k t l tmps := by
  cases hk with
  | nil => exact ⟨rfl, .nil, ht⟩
  | cons h1 h2 =>
    rename_i x y k l
    cases x <;> first | exact ⟨rfl, .cons h1 h2, ht⟩ | (cases y <;> simp only [IRel] at h1) <;> (obtain ⟨y, h3, rfl⟩ := h1; exact ⟨y, _, h3, rfl, h2, ht⟩)

def resR (P : Program) (m : MP) (f : Nat) (t : T AV) (tmps : Array Value) : Prop :=
  ∀ fn, P.funcs[f]? = some fn → ∀ j ∈ resTmps fn.results.toList, conc m (tget t j) = some (tmps.getD j undef)

def ChR (m : MP) : List APanic → List PanicEntry → Prop
  | [], [] => True
  | p :: l, e :: l' => conc m p.v = some e.v ∧ e.recovered = p.recovered ∧ e.goexit = false ∧ ChR m l l'
  | _, _ => False
def DsR (m : MP) : List ADefer → List Deferred → Prop
  | [], [] => True
  | d :: l, e :: l' => DR m d e ∧ DsR m l l'
  | _, _ => False

theorem ChR.mono (h : Ext m m') : ∀ {a : List APanic} {b : List PanicEntry}, ChR m a b → ChR m' a b
  | [], [], _ => trivial
  | _ :: _, _ :: _, ⟨h1, h2, h3, h4⟩ => ⟨conc_mono h _ _ h1, h2, h3, ChR.mono h h4⟩
  | [], _ :: _, hh => hh.elim
  | _ :: _, [], hh => hh.elim
theorem ChR.append : ∀ {a : List APanic} {b : List PanicEntry} {a' : List APanic} {b' : List PanicEntry}, ChR m a b → ChR m a' b' → ChR m (a ++ a') (b ++ b')
  | [], [], _, _, _, h => h
  | _ :: _, _ :: _, _, _, ⟨h1, h2, h3, h4⟩, h => ⟨h1, h2, h3, ChR.append h4 h⟩
  | [], _ :: _, _, _, hh, _ => hh.elim
  | _ :: _, [], _, _, hh, _ => hh.elim
theorem DsR.mono (h : Ext m m') : ∀ {a : List ADefer} {b : List Deferred}, DsR m a b → DsR m' a b
  | [], [], _ => trivial
  | _ :: _, _ :: _, ⟨h1, h2⟩ => ⟨h1.mono h, DsR.mono h h2⟩
  | [], _ :: _, hh => hh.elim
  | _ :: _, [], hh => hh.elim

def MR (P : Program) (m : MP) (H : AH) (lo hi : Nat) (sus : Bool) (fr : AFrame) (c : Frame) : Prop :=
  match fr.mode with
  | .run => c.mode = .run ∧ TodoR P m H lo hi fr.size sus fr.todo fr.tmps c.todo c.tmps
  | .returning => c.mode = .returning ∧ resR P m fr.fn fr.tmps c.tmps
  | .panicking ch => ∃ ch', c.mode = .panicking ch' ∧ ChR m ch ch' ∧ resR P m fr.fn fr.tmps c.tmps

structure FrR (P : Program) (m : MP) (H : AH) (lo hi : Nat) (sus : Bool) (fr : AFrame) (c : Frame) : Prop where
  fn : c.fn = fr.fn
  kind : c.kind = fr.kind
  ro : ROR m fr.roundOf c.roundOf
  size : c.tmps.size = fr.size
  defers : DsR m fr.defers c.defers
  mode : MR P m H lo hi sus fr c

theorem resR.mono {f : Nat} (h : resR P m f t tmps) (e : Ext m m') : resR P m' f t tmps := fun fn hf j hj => conc_mono e _ _ (h fn hf j hj)
theorem resR.of {f : Nat} (h : TR m t tmps) : resR P m f t tmps := fun _ _ j _ => h j

theorem TodoR.keep {k : List AItem} {l : List Item} (h : TodoR P m H lo hi size true k t l tmps) (hk : Keep hi m m' H H') : TodoR P m' H' lo hi size true k t l tmps := by
  unfold TodoR at *
  split at h
  · obtain ⟨L, k', e1, e2, e3, e4⟩ := h
    exact ⟨L, k', e1, e2.mono hk.ext, e3.keep hk, e4⟩
  · obtain ⟨y, k', e1, e2, e3, e4⟩ := h
    exact ⟨y, k', hk.ext _ _ e1, e2, e3.mono hk.ext, e4.mono hk.ext⟩
  · cases h.1

theorem FrR.keep {fr : AFrame} {c : Frame} (h : FrR P m H lo hi true fr c) (hk : Keep hi m m' H H') : FrR P m' H' lo hi true fr c := by
  refine ⟨h.fn, h.kind, h.ro.mono hk.ext, h.size, h.defers.mono hk.ext, ?_⟩
  have hm := h.mode
  unfold MR at *
  split at hm
  · exact ⟨hm.1, hm.2.keep hk⟩
  · exact ⟨hm.1, hm.2.mono hk.ext⟩
  · obtain ⟨ch, h1, h2, h3⟩ := hm
    exact ⟨ch, h1, h2.mono hk.ext, h3.mono hk.ext⟩

inductive SR (P : Program) (m : MP) (H : AH) : Nat → List AFrame → List Frame → Prop
  | nil {hi : Nat} : SR P m H hi [] []
  | cons {hi lo hi' : Nat} {fr : AFrame} {c : Frame} {cs : List AFrame} {cs' : List Frame} : hi' ≤ hi → lo ≤ hi' → FrR P m H lo hi' true fr c → SR P m H lo cs cs' → SR P m H hi (fr :: cs) (c :: cs')

theorem SR.keep {cs : List AFrame} {cs' : List Frame} (h : SR P m H hi cs cs') : ∀ {b : Nat}, hi ≤ b → Keep b m m' H H' → SR P m' H' hi cs cs' := by
  induction h with
  | nil => intro _ _ _; exact .nil
  | cons h1 h2 h3 h4 ih =>
    intro b hb hk
    exact .cons h1 h2 (h3.keep (hk.le (Nat.le_trans h1 hb))) (ih (Nat.le_trans h2 (Nat.le_trans h1 hb)) hk)

/-- The machines stand alike. -/
structure St (P : Program) (w0 : World) (am : AM) (c : Frame) (cs : List Frame) (w : World) (m : MP) (lo : Nat) : Prop where
  hr : HR P w0 m am.H w
  gl : GL P m
  le : lo ≤ am.H.next
  fr : FrR P m am.H lo am.H.next false am.fr c
  cs : SR P m am.H lo am.cs cs

theorem atR_self {c : Frame} (hm : c.mode = .run) : c.atR ⟨c.tmps, c.defers⟩ c.todo = c := by
  cases c; simp [Frame.atR] at *; exact hm.symm

/-- The step goes on to these. -/
def Goes (P : Program) (w0 : World) (am' : AM) (c : Frame) (cs base : List Frame) (w : World) : Prop :=
  ∃ c' cs' w' m lo, Steps P (lone c (cs ++ base) w) (lone c' (cs' ++ base) w') ∧ St P w0 am' c' cs' w' m lo

/-- A move of the running frame alone, over the same temporaries. -/
theorem St.move {am : AM} {c : Frame} {cs base : List Frame} {lo : Nat} (h : St P w0 am c cs w m lo) {todo : List AItem} {todo' : List Item} (hrun : am.fr.mode = .run)
    (hk : KR m todo todo') (ht : TR m am.fr.tmps c.tmps)
    (hs : step P (lone (c.atR ⟨c.tmps, c.defers⟩ c.todo) (cs ++ base) w) = .next (lone (c.atR ⟨c.tmps, c.defers⟩ todo') (cs ++ base) w)) :
    Goes P w0 ⟨{ am.fr with todo := todo }, am.cs, am.H⟩ c cs base w := by
  have hm := h.fr.mode
  unfold MR at hm
  rw [hrun] at hm
  rw [atR_self hm.1] at hs
  refine ⟨_, cs, w, m, lo, .one hs, h.hr, h.gl, h.le, ⟨h.fr.fn, h.fr.kind, h.fr.ro, h.fr.size, h.fr.defers, ?_⟩, h.cs⟩
  unfold MR
  simp only [hrun]
  exact ⟨rfl, TodoR.of hk ht⟩

theorem eval_of {x : Operand} {v : AV} (hG : GL P m) (ht : TR m t tmps) (h : aev P t x = some v) {df : List Deferred} : conc m v = some ((⟨tmps, df⟩ : Act).eval x) :=
  aev_conc (a := ⟨tmps, df⟩) hG ht h

end
end Go.AE
