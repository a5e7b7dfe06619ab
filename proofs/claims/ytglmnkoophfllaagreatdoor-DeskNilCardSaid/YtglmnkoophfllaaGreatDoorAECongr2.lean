/-
  What a pure operation answers hangs on what it looks at alone.
-/
import Derived.Test.YtglmnkoophfllaaGreatDoorAECongr
namespace Go.AE
open Go

variable {P : Program} {t : T AV} {H H' : AH}

theorem loadN_mono (h : ∀ b o, H.get b = some o → H'.get b = some o) {b off n : Nat} {l : List AV} (e : loadN H b off n = some l) : loadN H' b off n = some l := by
  unfold loadN at *
  cases n with
  | zero => exact e
  | succ n =>
    simp only at *
    cases hb : H.get b with
    | none => rw [hb] at e; simp at e
    | some o => rw [h b o hb]; rw [hb] at e; exact e
theorem loadT_mono (h : ∀ b o, H.get b = some o → H'.get b = some o) {ty : TypeId} {b off : Nat} {v : AV} (e : loadT P H ty b off = some v) : loadT P H' ty b off = some v := by
  unfold loadT at *
  repeat' split at e
  all_goals first
    | (simp at e; done)
    | (rename_i h1; rw [loadN_mono h h1]; exact e)
theorem mapOf_mono (h : ∀ b o, H.get b = some o → H'.get b = some o) {x : AV} {es : List (AV × AV)} (e : mapOf H x = some es) : mapOf H' x = some es := by
  unfold mapOf at *
  repeat' split at e
  all_goals first
    | (simp at e; done)
    | exact e
    | (rename_i h1; simp only [h _ _ h1]; exact e)
theorem alen_mono (h : ∀ b o, H.get b = some o → H'.get b = some o) {ty : TypeId} {x v : AV} (e : alen P H ty x = some v) : alen P H' ty x = some v := by
  unfold alen at *
  repeat' split at e
  all_goals first
    | (simp at e; done)
    | exact e
    | (rename_i h1; simp only [h _ _ h1]; exact e)
    | skip

theorem aquietB_nolooks {b : Builtin} {ts : List TypeId} {args : List AV} (h : b ≠ .len) : aquietB P H b ts args = aquietB P H' b ts args := by
  unfold aquietB
  split
  · exact absurd rfl h
  all_goals rfl

theorem apure_nolooks {o : Oper} (h : looks o.op = false) : apure P H t o = apure P H' t o := by
  obtain ⟨dst, op, type, pos, after, guard⟩ := o
  cases op
  case load ty x => simp [looks] at h
  case convert a b c => simp [looks] at h
  case lookup ty x k ok => simp [looks] at h
  case makeFunc f a b => cases f <;> rfl
  case typeAssert a b c d => cases d <;> rfl
  case call c =>
    obtain ⟨callee, args, ats⟩ := c
    cases callee
    case builtin b =>
      have hb : b ≠ .len := by
        intro e; subst e; simp [looks] at h
      simp only [apure]
      cases aevs P t args.toList with
      | none => rfl
      | some vs => exact aquietB_nolooks hb
    all_goals rfl
  all_goals rfl

theorem aconvP_mono (h : ∀ b o, H.get b = some o → H'.get b = some o) {src dst : TypeId} {x v : AV} (e : aconvP P H src dst x = some v) : aconvP P H' src dst x = some v := by
  unfold aconvP at *
  split at e
  · exact e
  · split at e
    · rename_i h1 h2
      rw [h _ _ h2]
      simp only [h1] at e ⊢
      exact e
    · cases e
  · exact e
  · split at e
    · rename_i h1 h2
      rw [h _ _ h2]
      simp only [h1] at e ⊢
      exact e
    · cases e
  · cases e

theorem apure_mono (h : ∀ b o, H.get b = some o → H'.get b = some o) {o : Oper} {v : AV} (e : apure P H t o = some v) : apure P H' t o = some v := by
  cases hl : looks o.op with
  | false => rw [← apure_nolooks (H := H) hl]; exact e
  | true =>
  obtain ⟨dst, op, type, pos, after, guard⟩ := o
  cases op
  case load ty x =>
    simp only [apure] at *
    split at e
    · exact loadT_mono h e
    · simp at e
  case convert src dst x =>
    simp only [apure] at *
    split at e
    · exact aconvP_mono h e
    · exact e
    · simp at e
  case lookup ty x k ok =>
    simp only [apure] at *
    split at e
    · rename_i hx hk
      unfold alookup at *
      split at e
      · split at e
        · simp at e
        · split at e
          · simp at e
          · rename_i es hm; rw [mapOf_mono h hm]; exact e
      · simp at e
    · simp at e
  case call c =>
    obtain ⟨callee, args, ats⟩ := c
    cases callee
    case builtin b =>
      simp only [apure] at *
      split at e
      · rename_i vs hvs
        cases b
        case len =>
          unfold aquietB at *
          split at e
          · exact alen_mono h e
          all_goals first
            | exact e
            | (simp at e; done)
            | (simp_all; done)
        all_goals (simp [looks] at hl; done)
      · simp at e
    all_goals (simp [looks] at hl; done)
  all_goals (simp [looks] at hl; done)

end Go.AE
