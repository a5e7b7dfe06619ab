/-
  The abstract machine's relation to the model: values, memory, their growth.
-/
import Derived.Test.YtglmnkoophfllaaGreatDoorAEDef
import Derived.Laws.Sem
import Derived.Laws.Cells
import Derived.Laws.Append
import Derived.Calls
import Derived.AtR
namespace Go.AE
open Go

/-! ### The trie -/
namespace T
variable {α : Type}
theorem get_setF : ∀ (f : Nat) (t : T α) (n : Nat) (x : Option α) (k : Nat), n < f → (setF f t n x).get k = if k = n then x else t.get k
  | 0, _, _, _, _, h => absurd h (Nat.not_lt_zero _)
  | f + 1, leaf, n, x, k, h => by
    cases n with
    | zero => cases k with
      | zero => simp [setF, get]
      | succ k => simp only [setF, get]; split <;> simp
    | succ n =>
      have hlt : n / 2 < f := by omega
      cases hb : Nat.beq (n % 2) 0
      all_goals
        simp only [setF, hb]
        cases k with
        | zero => simp [get]
        | succ k =>
          cases hk : Nat.beq (k % 2) 0 <;> simp only [get, hk]
          all_goals
            try rw [get_setF f _ _ _ _ hlt]
            have hb' := hb
            have hk' := hk
            first
              | (have hb' := Nat.eq_of_beq_eq_true hb')
              | (have hb' := Nat.ne_of_beq_eq_false hb')
            first
              | (have hk' := Nat.eq_of_beq_eq_true hk')
              | (have hk' := Nat.ne_of_beq_eq_false hk')
            by_cases e : k = n
            · subst e
              first | omega | simp_all | (simp; done)
            · have e' : ¬ (k + 1 = n + 1) := by omega
              simp only [e', if_false]
              try (have e2 : ¬ (k / 2 = n / 2) := by omega)
              first | done | simp_all [get]
  | f + 1, node l v r, n, x, k, h => by
    cases n with
    | zero => cases k with
      | zero => simp [setF, get]
      | succ k => simp only [setF, get]; simp
    | succ n =>
      have hlt : n / 2 < f := by omega
      cases hb : Nat.beq (n % 2) 0
      all_goals
        simp only [setF, hb]
        cases k with
        | zero => simp [get]
        | succ k =>
          cases hk : Nat.beq (k % 2) 0 <;> simp only [get, hk]
          all_goals
            try rw [get_setF f _ _ _ _ hlt]
            have hb' := hb
            have hk' := hk
            first
              | (have hb' := Nat.eq_of_beq_eq_true hb')
              | (have hb' := Nat.ne_of_beq_eq_false hb')
            first
              | (have hk' := Nat.eq_of_beq_eq_true hk')
              | (have hk' := Nat.ne_of_beq_eq_false hk')
            by_cases e : k = n
            · subst e
              first | omega | simp_all | (simp; done)
            · have e' : ¬ (k + 1 = n + 1) := by omega
              simp only [e', if_false]
              try (have e2 : ¬ (k / 2 = n / 2) := by omega)
              first | done | simp_all
theorem get_set (t : T α) (n : Nat) (x : Option α) (k : Nat) : (t.set n x).get k = if k = n then x else t.get k :=
  get_setF _ _ _ _ _ (Nat.lt_succ_self _)
@[simp] theorem get_leaf (k : Nat) : (leaf : T α).get k = none := rfl
theorem get_ofList : ∀ (l : List α) (i : Nat) (t : T α) (k : Nat), (ofList l i t).get k = if i ≤ k ∧ k < i + l.length then l[k - i]? else t.get k
  | [], i, t, k => by
    have : ¬ (i ≤ k ∧ k < i + ([] : List α).length) := by simp
    rw [if_neg this]; rfl
  | x :: xs, i, t, k => by
    simp only [ofList]
    rw [get_ofList xs (i + 1), get_set]
    by_cases h : k = i
    · subst h
      have h1 : ¬ (k + 1 ≤ k ∧ k < k + 1 + xs.length) := by omega
      have h2 : (k ≤ k ∧ k < k + (x :: xs).length) := by simp
      simp [h1]
    · simp only [h, if_false]
      by_cases h1 : i + 1 ≤ k ∧ k < i + 1 + xs.length
      · have h2 : i ≤ k ∧ k < i + (x :: xs).length := by simp; omega
        simp only [h1, h2, if_true, and_self]
        have : k - i = (k - (i + 1)) + 1 := by omega
        rw [this]; simp
      · have h2 : ¬ (i ≤ k ∧ k < i + (x :: xs).length) := by simp; omega
        simp only [h1, h2, if_false]
end T

/-! ### Where an abstract block lies -/
structure MB where
  c : Nat
  off : Nat
  δ : Nat

abbrev MP := Nat → Option MB

mutual
def conc (m : MP) : AV → Option Value
  | .und => some undef
  | .bool b => some (.bool b)
  | .int k n => some (.int k n)
  | .float k b => some (.float k b)
  | .str s => some (.string ⟨s.toArray⟩)
  | .ptr none => some (.pointer none)
  | .ptr (some (b, o)) => match m b with
    | some x => some (.pointer (some ⟨x.c, x.off + o, none⟩))
    | none => none
  | .sl none n c _ => some (.slice none n c)
  | .sl (some (b, o)) n c s => match m b with
    | some x => some (.slice (some ⟨x.c, x.off + o, none⟩) n (c + bif s then x.δ else 0))
    | none => none
  | .sle b o a => match m b with
    | some x => some (.slice (some ⟨x.c, x.off + (if x.δ = 0 then o else o + a), none⟩) 0 x.δ)
    | none => none
  | .map none => some (.map none)
  | .map (some r) => match m r with
    | some x => some (.map (some x.c))
    | none => none
  | .func f a c => match concL m a, concL m c with
    | some a, some c => some (.func (.func f) a.toArray c.toArray)
    | _, _ => none
  | .yieldF l => match m l with
    | some x => some (.func (.yield x.c) #[] #[])
    | none => none
  | .nilFunc => some .nilFunc
  | .iface t v => match conc m v with
    | some v => some (.iface t v)
    | none => none
  | .nilIface => some .nilIface
  | .agg cs => match concL m cs with
    | some l => some (.agg l.toArray)
    | none => none
  | .tup cs => match concL m cs with
    | some l => some (.tuple l.toArray)
    | none => none
def concL (m : MP) : List AV → Option (List Value)
  | [] => some []
  | a :: l => match conc m a, concL m l with
    | some v, some vs => some (v :: vs)
    | _, _ => none
end

def Ext (m m' : MP) : Prop := ∀ b x, m b = some x → m' b = some x
theorem Ext.refl (m : MP) : Ext m m := fun _ _ h => h
theorem Ext.trans {a b c : MP} (h : Ext a b) (h' : Ext b c) : Ext a c := fun x y e => h' x y (h x y e)

mutual
theorem conc_mono {m m' : MP} (h : Ext m m') : ∀ (v : AV) (u : Value), conc m v = some u → conc m' v = some u
  | .und, u, e => by simpa [conc] using e
  | .bool b, u, e => by simpa [conc] using e
  | .int k n, u, e => by simpa [conc] using e
  | .float k b, u, e => by simpa [conc] using e
  | .str s, u, e => by simpa [conc] using e
  | .ptr none, u, e => by simpa [conc] using e
  | .ptr (some (b, o)), u, e => by
    simp only [conc] at e ⊢
    cases hb : m b with
    | none => simp [hb] at e
    | some x => rw [h b x hb]; simpa [hb] using e
  | .sl none n c s, u, e => by simpa [conc] using e
  | .sl (some (b, o)) n c s, u, e => by
    simp only [conc] at e ⊢
    cases hb : m b with
    | none => simp [hb] at e
    | some x => rw [h b x hb]; simpa [hb] using e
  | .sle b o a, u, e => by
    simp only [conc] at e ⊢
    cases hb : m b with
    | none => simp [hb] at e
    | some x => rw [h b x hb]; simpa [hb] using e
  | .map none, u, e => by simpa [conc] using e
  | .map (some r), u, e => by
    simp only [conc] at e ⊢
    cases hb : m r with
    | none => simp [hb] at e
    | some x => rw [h r x hb]; simpa [hb] using e
  | .func f a c, u, e => by
    simp only [conc] at e ⊢
    cases ha : concL m a with
    | none => simp [ha] at e
    | some a' => cases hc : concL m c with
      | none => simp [ha, hc] at e
      | some c' => rw [concL_mono h a a' ha, concL_mono h c c' hc]; simpa [ha, hc] using e
  | .yieldF l, u, e => by
    simp only [conc] at e ⊢
    cases hb : m l with
    | none => simp [hb] at e
    | some x => rw [h l x hb]; simpa [hb] using e
  | .nilFunc, u, e => by simpa [conc] using e
  | .iface t v, u, e => by
    simp only [conc] at e ⊢
    cases hv : conc m v with
    | none => simp [hv] at e
    | some v' => rw [conc_mono h v v' hv]; simpa [hv] using e
  | .nilIface, u, e => by simpa [conc] using e
  | .agg cs, u, e => by
    simp only [conc] at e ⊢
    cases hv : concL m cs with
    | none => simp [hv] at e
    | some v' => rw [concL_mono h cs v' hv]; simpa [hv] using e
  | .tup cs, u, e => by
    simp only [conc] at e ⊢
    cases hv : concL m cs with
    | none => simp [hv] at e
    | some v' => rw [concL_mono h cs v' hv]; simpa [hv] using e
theorem concL_mono {m m' : MP} (h : Ext m m') : ∀ (l : List AV) (u : List Value), concL m l = some u → concL m' l = some u
  | [], u, e => by simpa [concL] using e
  | a :: l, u, e => by
    simp only [concL] at e ⊢
    cases ha : conc m a with
    | none => simp [ha] at e
    | some a' => cases hl : concL m l with
      | none => simp [ha, hl] at e
      | some l' => rw [conc_mono h a a' ha, concL_mono h l l' hl]; simpa [ha, hl] using e
end

/-! Lists of related values, place by place. -/
theorem concL_cons {m : MP} {a : AV} {l : List AV} {u : List Value} : concL m (a :: l) = some u ↔ ∃ v vs, u = v :: vs ∧ conc m a = some v ∧ concL m l = some vs := by
  simp only [concL]
  constructor
  · intro e
    cases ha : conc m a with
    | none => simp [ha] at e
    | some a' => cases hl : concL m l with
      | none => simp [ha, hl] at e
      | some l' => simp [ha, hl] at e; exact ⟨a', l', e.symm, rfl, rfl⟩
  · rintro ⟨v, vs, rfl, h1, h2⟩
    simp [h1, h2]
theorem concL_nil {m : MP} {u : List Value} : concL m [] = some u ↔ u = [] := by
  simp [concL, eq_comm]
theorem concL_length {m : MP} : ∀ {l : List AV} {u : List Value}, concL m l = some u → u.length = l.length
  | [], u, h => by simp [concL_nil] at h; simp [h]
  | a :: l, u, h => by
    obtain ⟨v, vs, rfl, _, h2⟩ := concL_cons.1 h
    simp [concL_length h2]
theorem concL_get {m : MP} : ∀ {l : List AV} {u : List Value}, concL m l = some u → ∀ (i : Nat) (a : AV), l[i]? = some a → ∃ v, u[i]? = some v ∧ conc m a = some v
  | [], u, h, i, a, e => by simp at e
  | x :: l, u, h, i, a, e => by
    obtain ⟨v, vs, rfl, h1, h2⟩ := concL_cons.1 h
    cases i with
    | zero => simp at e; subst e; exact ⟨v, by simp, h1⟩
    | succ i => simp at e; obtain ⟨w, hw, hc⟩ := concL_get h2 i a e; exact ⟨w, by simpa using hw, hc⟩
theorem concL_of_get {m : MP} : ∀ {l : List AV} {u : List Value}, u.length = l.length → (∀ (i : Nat) (a : AV), l[i]? = some a → ∃ v, u[i]? = some v ∧ conc m a = some v) → concL m l = some u
  | [], u, hl, h => by simp at hl; simp [concL_nil, hl]
  | x :: l, u, hl, h => by
    cases u with
    | nil => simp at hl
    | cons v vs =>
      obtain ⟨w, hw, hc⟩ := h 0 x (by simp)
      simp at hw
      subst hw
      refine concL_cons.2 ⟨_, _, rfl, hc, concL_of_get (by simpa using hl) fun i a e => ?_⟩
      obtain ⟨w, hw, hc⟩ := h (i + 1) a (by simpa using e)
      exact ⟨w, by simpa using hw, hc⟩
theorem concL_append {m : MP} : ∀ {l l' : List AV} {u u' : List Value}, concL m l = some u → concL m l' = some u' → concL m (l ++ l') = some (u ++ u')
  | [], l', u, u', h, h' => by simp [concL_nil] at h; simpa [h] using h'
  | x :: l, l', u, u', h, h' => by
    obtain ⟨v, vs, rfl, h1, h2⟩ := concL_cons.1 h
    exact concL_cons.2 ⟨_, _, rfl, h1, concL_append h2 h'⟩

theorem conc_agg {m : MP} {cs : List AV} {u : Value} : conc m (.agg cs) = some u ↔ ∃ l, concL m cs = some l ∧ u = .agg l.toArray := by
  simp only [conc]
  cases h : concL m cs <;> simp [eq_comm]
theorem conc_tup {m : MP} {cs : List AV} {u : Value} : conc m (.tup cs) = some u ↔ ∃ l, concL m cs = some l ∧ u = .tuple l.toArray := by
  simp only [conc]
  cases h : concL m cs <;> simp [eq_comm]

/-- One value's cells are related to the other's. -/
theorem cells_conc {m : MP} {v : AV} {u : Value} (h : conc m v = some u) : concL m v.cells = some u.cells.toList := by
  cases v with
  | agg cs => obtain ⟨l, hl, rfl⟩ := conc_agg.1 h; simpa [AV.cells, Value.cells] using hl
  | _ =>
    have hc : u.cells = #[u] := by
      first
        | (simp only [conc] at h; cases h; rfl)
        | (simp only [conc] at h; split at h <;> first | (cases h; rfl) | (simp at h; done))
        | (unfold conc at h; split at h <;> simp_all <;> (repeat' split at h) <;> first | (cases h; rfl) | (simp_all; done) | (subst h; rfl))
    rw [hc]
    exact concL_cons.2 ⟨u, [], rfl, h, concL_nil.2 rfl⟩

/-! ### Temporaries, memory -/
def TR (m : MP) (t : T AV) (tmps : Array Value) : Prop := ∀ i, conc m (tget t i) = some (tmps.getD i undef)

theorem TR.mono {m m' : MP} {t : T AV} {tmps : Array Value} (h : Ext m m') (ht : TR m t tmps) : TR m' t tmps := fun i => conc_mono h _ _ (ht i)

def OR (P : Program) (m : MP) (o : AObj) (x : MB) (w : World) : Prop :=
  match o with
  | .cells vs e s ro fz => ∃ cs fr, w.heap[x.c]? = some (.cells cs e fr) ∧
      (∀ i v, vs[i]? = some v → ∃ u, cs[x.off + i]? = some u ∧ conc m v = some u) ∧
      (ro = false → fr.2 ≤ x.off + fz ∨ fr.1 = fr.2) ∧
      (s = true → ∃ size, sizeOfT P e = some size ∧ x.off + vs.length + x.δ * size ≤ cs.size) ∧ (s = false → x.off = 0 ∧ cs.size = vs.length)
  | .map es => ∃ ces clock, w.heap[x.c]? = some (.map ces clock) ∧ ces.size = es.length ∧
      ∀ (i : Nat) (k v : AV), es[i]? = some (k, v) → ∃ e, ces[i]? = some e ∧ conc m k = some e.key ∧ conc m v = some e.val
  | .loop st pe fn size tmps ps as body ds => ∃ r, w.heap[x.c]? = some (.loop r) ∧ r.state = st ∧ r.pending = pe ∧ r.fn = fn ∧ r.tmps.size = size ∧
      TR m tmps r.tmps ∧ r.params = ps ∧ r.assign = as ∧ r.body = body ∧ ∃ y, m ds = some y ∧ r.defers = y.c
  | .deferred b => w.heap[x.c]? = some (.deferred (if b then some [] else none))
  | .strIter s pos => x.off = 0 ∧ w.heap[x.c]? = some (.stringIter ⟨s.toArray⟩ pos)

theorem OR.mono {P : Program} {m m' : MP} {o : AObj} {x : MB} {w w' : World} (h : Ext m m') (hw : w'.heap[x.c]? = w.heap[x.c]?) (ho : OR P m o x w) : OR P m' o x w' := by
  cases o with
  | cells vs e s ro fz =>
    obtain ⟨cs, fr, h1, h2, h3, h4⟩ := ho
    exact ⟨cs, fr, hw.trans h1, fun i v e => let ⟨u, hu, hc⟩ := h2 i v e; ⟨u, hu, conc_mono h _ _ hc⟩, h3, h4⟩
  | map es =>
    obtain ⟨ces, clock, h1, h2, h3⟩ := ho
    exact ⟨ces, clock, hw.trans h1, h2, fun i k v e => let ⟨x, hx, ha, hb⟩ := h3 i k v e; ⟨x, hx, conc_mono h _ _ ha, conc_mono h _ _ hb⟩⟩
  | loop st pe fn size tmps ps as body ds =>
    obtain ⟨r, h1, h2, h3, h4, h5, h6, h7, h8, h9, y, h10, h11⟩ := ho
    exact ⟨r, hw.trans h1, h2, h3, h4, h5, h6.mono h, h7, h8, h9, y, h _ _ h10, h11⟩
  | deferred b => exact hw.trans ho
  | strIter s pos => exact ⟨ho.1, hw.trans ho.2⟩

/-- What is frozen lies below, or behind the end. -/
theorem free_above {fr : Nat × Nat} {off fz : Nat} (h : fr.2 ≤ off + fz ∨ fr.1 = fr.2) (i : Nat) (hi : fz ≤ i) : ¬ (fr.1 ≤ off + i ∧ off + i < fr.2) := by
  intro ⟨a, b⟩
  rcases h with h | h <;> omega

def AObj.wr : AObj → Bool
  | .cells _ _ _ ro _ => !ro
  | _ => true

/-- Memory, and what it was at the start (w0). -/
structure HR (P : Program) (w0 : World) (m : MP) (H : AH) (w : World) : Prop where
  objs : ∀ b o x, H.get b = some o → m b = some x → OR P m o x w
  inj : ∀ b b' o o' x x', H.get b = some o → H.get b' = some o' → m b = some x → m b' = some x' → b ≠ b' → x.c ≠ x'.c
  low : ∀ b x, m b = some x → b < H.next
  have_ : ∀ b, H.next ≤ b → H.get b = none
  bound : ∀ b x, m b = some x → x.c < w.heap.size
  wr : ∀ b o x, H.get b = some o → o.wr = true → m b = some x → w0.heap.size ≤ x.c
  grow : w0.heap.size ≤ w.heap.size
  keep : ∀ c, c < w0.heap.size → w.heap[c]? = w0.heap[c]?
  tape : w.tape = w0.tape
  os : w.os = w0.os
  output : w.output = w0.output

end Go.AE
