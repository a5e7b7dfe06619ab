/-
  A run of the abstract machine, cut into pieces: the states between them are written down.
-/
import Derived.Test.YtglmnkoophfllaaGreatDoorAEDef
namespace Go.AE
open Go

def iter (P : Program) : Nat → AM → Option AM
  | 0, m => some m
  | n + 1, m => match astep P m with
    | some m' => iter P n m'
    | none => none

theorem adone_stuck {P : Program} {f : Nat} {m : AM} {v : AV} (h : adone P f m = some v) : astep P m = none := by
  unfold adone at h
  split at h
  · rename_i h1 h2 h3 h4 h5
    unfold astep
    rw [h2]
    simp only
    unfold aunwind
    simp only [h1, h2, h3, h4, h5]
    cases P.funcs[m.fr.fn]? with
    | none => rfl
    | some fn =>
      simp only
      cases aresult P m.H m.fr.tmps fn.results.toList with
      | none => rfl
      | some v => rfl
  · cases h

theorem arun_iter {P : Program} {f n : Nat} : ∀ {k : Nat} {m m' : AM}, iter P k m = some m' → arun P f (k + n) m = arun P f n m'
  | 0, m, m', h => by simp only [iter, Option.some.injEq] at h; subst h; rw [Nat.zero_add]
  | k + 1, m, m', h => by
    simp only [iter] at h
    cases hs : astep P m with
    | none => rw [hs] at h; cases h
    | some m1 =>
      rw [hs] at h
      rw [Nat.add_right_comm]
      simp only [arun, hs]
      cases hd : adone P f m with
      | some v => rw [adone_stuck hd] at hs; cases hs
      | none => exact arun_iter h

/-! ### Places in the program's text -/
def sub : List Nat → Code → Code
  | [], c => c
  | 0 :: p, .seq a _ => sub p a
  | 1 :: p, .seq _ b => sub p b
  | 0 :: p, .cond _ a _ => sub p a
  | 1 :: p, .cond _ _ b => sub p b
  | 0 :: p, .block _ a => sub p a
  | 0 :: p, .loop a => sub p a
  | 0 :: p, .rangeFunc _ _ a _ => sub p a
  | 1 :: p, .rangeFunc _ _ _ b => sub p b
  | 0 :: p, .scope a => sub p a
  | _ :: _, c => c
def cp (P : Program) (f : Nat) (path : List Nat) : Code := match P.funcs[f]? with
  | some fn => match fn.body with
    | some c => sub path c
    | none => .skip
  | none => .skip
def dropP : Nat → List PStep → List PStep
  | 0, l => l
  | _ + 1, [] => []
  | n + 1, _ :: l => dropP n l
/-- A region, its first j steps done. -/
def rg (P : Program) (f : Nat) (path : List Nat) (j : Nat) : AItem := match cp P f path with
  | .region _ ops dr => match plan ops dr with
    | some ps => .reg ops dr (dropP j ps)
    | none => .beginRound
  | _ => .beginRound
def ps (P : Program) (f : Nat) (path : List Nat) : Array Tmp := match cp P f path with
  | .rangeFunc _ q _ _ => q
  | _ => #[]
def b8 : List Nat → List UInt8
  | [] => []
  | n :: l => UInt8.ofNat n :: b8 l
def I (n : Int) : AV := .int .i64 n
def U (l : List Nat) : AV := .str (b8 l)
end Go.AE
