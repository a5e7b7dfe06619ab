/-
  A range over a string of plain letters.
-/
import Derived.Test.YtglmnkoophfllaaGreatDoorAEAct2
namespace Go.AE
open Go
section
variable {P : Program} {w0 : World} {m : MP} {H : AH} {w : World}

theorem dropB_get : ∀ (n : Nat) (l : List UInt8), dropB n l = l.drop n
  | 0, l => rfl
  | n + 1, [] => rfl
  | n + 1, _ :: l => by simp [dropB, dropB_get n l]

theorem decode_plain (s : List UInt8) (pos : Nat) (b : UInt8) (h : s[pos]? = some b) (hb : b.toNat < 128) : Utf8.decode ⟨s.toArray⟩ pos = (b.toNat, 1) := by
  obtain ⟨hlt, he⟩ := List.getElem?_eq_some_iff.1 h
  have hg : (⟨s.toArray⟩ : ByteArray).get! pos = b := by
    simp [ByteArray.get!, hlt, he]
  unfold Utf8.decode
  simp only [Nat.add_zero, hg]
  rw [if_pos hb]

theorem anext_sound (hr : HR P w0 m H w) {x v : AV} {H' : AH} {u : Value} {ty : TypeId} (h : anext H x = some (.val v H')) (hx : conc m x = some u) :
    VOk P w0 m H v H' ((Instr.next u true ty).run P w) := by
  unfold anext at h
  split at h
  · rename_i r
    split at h
    · rename_i s pos ho
      obtain ⟨y, hy, rfl⟩ := conc_ptr hx
      obtain ⟨hoff, hrow⟩ := hr.objs r _ y ho hy
      have hb := hr.bound r y hy
      rw [dropB_get] at h
      split at h
      · rename_i hd
        cases h
        have hle : s.length ≤ pos := by simpa using hd
        refine ⟨m, w, .tuple #[.bool false], ?_, by simp [conc, concL], hr, Grow.refl _ _⟩
        have hn : ¬ pos < s.length := by omega
        have hsz : (⟨s.toArray⟩ : ByteArray).size = s.length := by show s.toArray.size = _; simp
        simp [Instr.next, hoff, getObj, Sem.run, hrow, hsz, hn]
      · rename_i b l hd
        split at h
        · rename_i hlt
          cases h
          have hlt : b.toNat < 128 := by simpa using hlt
          have hg : s[pos]? = some b := by
            have := congrArg (fun l => l[0]?) hd
            simpa using this
          have hp : pos < s.length := (List.getElem?_eq_some_iff.1 hg).1
          refine ⟨m, { w with heap := w.heap.setIfInBounds y.c (.stringIter ⟨s.toArray⟩ (pos + 1)) }, .tuple #[.bool true, goInt pos, .int .i32 b.toNat], ?_, by simp [conc, concL, goInt], hr.turn ho rfl hy ⟨hoff, by simp [hb]⟩, put_grow hy⟩
          have hsz : (⟨s.toArray⟩ : ByteArray).size = s.length := by show s.toArray.size = _; simp
          simp [Instr.next, hoff, getObj, setObj, Sem.run, hrow, hsz, hp, decode_plain s pos b hg hlt]
        · cases h
    · cases h
  · cases h
end
end Go.AE
