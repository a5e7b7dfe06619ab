/-
  VMNil, the statement's card: whatever the number, the law returns true and leaves the memory that was there as it was; the listed package-level variable reads as the row says.
-/
import Derived.Test.YtbgjkiebnkaalaaGreatDoorAEStep5
import Derived.Test.YtbgjkiebnkaalaaGreatDoorAEVMRun
import Derived.Test.YtbgjkiebnkaalaaGreatDoorCards
import Derived.Test.YtbgjkiebnkaalaaGreatDoorTie
import Derived.WalkKit
import Derived.ProofKit
import Derived.OpenShut
import Derived.Deep.DeepHandedRow
namespace Go.Proofs.YtbgjkiebnkaalaaGreatDoor.vMNil
open Go.ChangeShapes Go.WideShapes Go.ChangeAt Go.RowKit Go.AE

theorem own : ownKnob Tryz.prog.godebug = none := by kernel_rfl
theorem gNone : Tryz.prog.globalNamed "drowse/kern.none" = some 0 := by kernel_rfl
theorem tNone : (Tryz.prog.globals[0]?).map (·.type) = some 111 := by kernel_rfl
theorem gSize : Tryz.prog.globals.size = 5 := by kernel_rfl
theorem mixed : Tryz.prog.follows .mixedOrders = true := by kernel_rfl
theorem cells109 : Tryz.prog.cellsOf 109 = 1 := by kernel_rfl
theorem cells111 : Tryz.prog.cellsOf 111 = 2 := by kernel_rfl

def m0 : MP := fun g => if g < 5 then some ⟨g, 0, 0⟩ else none

theorem H0_get (b : Nat) : H0.get b = if b = 0 then some (.cells [.int .u32 0, .int .u32 0] 111 false true 0) else none := by
  simp [H0, AH.get, T.get_set]

theorem start {W : World} (hs : 5 ≤ W.heap.size) (h0 : W.heap[0]? = some (.cells #[.int .u32 0, .int .u32 0] 111 (0, 0))) : HR Tryz.prog W m0 H0 W := by
  have hm : ∀ b x, m0 b = some x → b < 5 ∧ x = ⟨b, 0, 0⟩ := by
    intro b x h
    unfold m0 at h
    split at h
    · rename_i hb; simp at h; exact ⟨hb, h.symm⟩
    · cases h
  have ho : ∀ b o, H0.get b = some o → b = 0 ∧ o = .cells [.int .u32 0, .int .u32 0] 111 false true 0 := by
    intro b o h
    rw [H0_get] at h
    split at h
    · rename_i hb; simp at h; exact ⟨hb, h.symm⟩
    · cases h
  refine ⟨fun b o x h1 h2 => ?_, fun b b' o o' x x' h1 h2 h3 h4 hne => ?_, fun b x h => ?_, fun b h => ?_, fun b x h => ?_, fun b o x h1 h2 h3 => ?_, Nat.le_refl _, fun _ _ => rfl, rfl, rfl, rfl⟩
  · obtain ⟨rfl, rfl⟩ := ho b o h1
    obtain ⟨_, rfl⟩ := hm _ _ h2
    refine ⟨_, _, h0, fun i v e => ?_, fun i _ => by simp, fun e => by cases e⟩
    match i, e with
    | 0, e => simp at e; subst e; exact ⟨_, rfl, by simp [conc]⟩
    | 1, e => simp at e; subst e; exact ⟨_, rfl, by simp [conc]⟩
    | i + 2, e => simp at e
  · obtain ⟨_, rfl⟩ := hm _ _ h3
    obtain ⟨_, rfl⟩ := hm _ _ h4
    exact hne
  · exact Nat.lt_trans (hm b x h).1 (by simp [H0])
  · rw [H0_get, if_neg]; intro e; subst e; simp [H0] at h
  · obtain ⟨h1, rfl⟩ := hm b x h; exact Nat.lt_of_lt_of_le h1 hs
  · obtain ⟨_, rfl⟩ := ho b o h1
    simp [AObj.wr] at h2

theorem globals0 : GL Tryz.prog m0 := by
  intro g hg
  rw [gSize] at hg
  simp [m0, hg]

/-- The law, out of the abstract machine's run. -/
theorem walk {W : World} (hs : 5 ≤ W.heap.size) (h0 : W.heap[0]? = some (.cells #[.int .u32 0, .int .u32 0] 111 (0, 0))) (n : Int) :
    Calls Tryz.prog 4 #[.int .i64 n] W fun e w' => e = .returned (.bool true) ∧ w'.os = W.os ∧ w'.output = W.output ∧ ∀ c, c < W.heap.size → w'.heap[c]? = W.heap[c]? := by
  have h := ran n
  unfold runs at h
  cases he : aenter Tryz.prog 4 [.int .i64 n] .normal with
  | none => rw [he] at h; cases h
  | some fr =>
    rw [he] at h
    cases hr : arun Tryz.prog 4 10000 ⟨fr, [], H0⟩ with
    | none => simp only [hr] at h; cases h
    | some r =>
      obtain ⟨v, H'⟩ := r
      simp only [hr] at h
      split at h
      · rename_i heq
        cases heq
        refine (calls_of_arun mixed (start hs h0) globals0 he (by simp [concL, conc]) hr).mono fun e w' ⟨m', u, e1, e2, e3, _⟩ => ?_
        simp [conc] at e2
        subst e2
        exact ⟨e1, e3.os, e3.output, e3.keep⟩
      · cases h

set_option maxRecDepth 100000 in
/-- What the row's list and the program's shape give. -/
theorem table {W : World} (h : laidMetH Tryz.prog Rows.vMNilRow.laid W) (hsh : W.ShapedOpen Tryz.prog) : 5 ≤ W.heap.size ∧ W.heap[0]? = some (.cells #[.int .u32 0, .int .u32 0] 111 (0, 0)) := by
  have hz : ((begin Tryz.prog (fun _ _ => 0) default).world.heap[0]?).bind Obj.row? = some (#[.int .u32 0, .int .u32 0], 111) := by kernel_rfl
  have h4 : (((begin Tryz.prog (fun _ _ => 0) default).world.heap[4]?).bind Obj.row?).isSome = true := by kernel_rfl
  obtain ⟨⟨z4, t4⟩, h4⟩ := Option.isSome_iff_exists.1 h4
  obtain ⟨cs4, e4, _⟩ := hsh.1 4 z4 t4 (by rw [gSize]; omega) h4
  obtain ⟨cs, e0, hcs, _⟩ := hsh.1 0 _ _ (by rw [gSize]; omega) hz
  refine ⟨by have := (Array.getElem?_eq_some_iff.1 e4).1; omega, ?_⟩
  obtain ⟨ps, ⟨g1, t1, c1, f1, p1, q1, _, _, _, _, ⟨g2, t2, c2, f2, p2, q2, _, _, _, _, ⟨g3, t3, c3, f3, p3, q3, _, _, _, _, ⟨g, t, c, fuel, p, q, hg, ht, hv, hd, _, _⟩, _⟩, _⟩, _⟩, _, _⟩ := h
  obtain rfl := Option.some.inj (gNone.symm.trans hg)
  obtain rfl := Option.some.inj (tNone.symm.trans ht)
  have hc : c = cs := by
    simp only [World.var?, gNone, Option.bind_some, e0] at hv
    exact (Option.some.inj hv).symm
  subst hc
  obtain ⟨y0, y1, n, hx, hl, r0, r1⟩ := trod_struct2 Tryz.underlying111 hd
  simp only [Prod.mk.injEq, Rows.laid_drowse_kern_none, DataW.agg.injEq, List.cons.injEq] at hx
  have u109 : Tryz.prog.underlying 109 = some (.int .u32) := Tryz.underlying109
  obtain ⟨k0, a0, b0, _⟩ := DataW.trod_int u109 r0
  obtain ⟨k1, a1, b1, _⟩ := DataW.trod_int u109 r1
  rw [cells109] at a0 a1
  rw [cells111] at hl
  obtain ⟨⟨d0, d1, _⟩, _⟩ := hx
  rw [b0] at d0
  rw [b1] at d1
  simp at d0 d1
  subst d0 d1
  obtain ⟨l⟩ := c
  match l, hl, a0, a1 with
  | [x, y], _, a0, a1 =>
    simp at a0 a1
    rw [e0, a0, a1]

theorem kept {W w' : World} (h1 : w'.os = W.os) (h2 : w'.output = W.output) (h3 : ∀ c, c < W.heap.size → w'.heap[c]? = W.heap[c]?) (may : MemPlace → Prop) : W.keptBut w' may := by
  refine ⟨h1, h2, fun i hi => ?_⟩
  rw [h3 i hi]
  have : W.heap[i]? = some W.heap[i] := by simp [hi]
  rw [this]
  cases W.heap[i] <;> simp

set_option maxRecDepth 100000 in
theorem contract (H : Type) (enc : TypeId × Value → H) (W : World) (base : Nat) (args : Array Value) (ds gs : List (DataW H)) (before : List MemPlace)
    (hval : ∀ (j : Nat) t v, Tryz.f4.params[j]? = some t → args[j]? = some v → Value.okWide Tryz.prog W .any base t v)
    (hW : DataW.Whole enc Tryz.prog Tryz.f4.params.toList Rows.vMNilSpec.vars false W args.toList ds gs before) (hL : laidMetH Tryz.prog Rows.vMNilRow.laid W) (hsh : W.ShapedOpen Tryz.prog) :
    Calls Tryz.prog 4 args W fun e W' => ∃ v, e = .returned v ∧ Rows.vMNilSpec.post enc Tryz.prog Tryz.f4 false true false false W args v W' := by
  have hW' := hW
  obtain ⟨p, q, hA0, hV, rfl, hfz, hnd⟩ := hW
  have hA : DataW.TrodAll enc Tryz.prog W 0 (fun _ => true) true Tryz.f4.params.toList args.toList ds p := hA0
  rw [Tryz.params4] at hA hval
  obtain ⟨v0, d0, rfl, rfl, h0⟩ := trodAll_one hA
  obtain ⟨rfl, rfl⟩ := trodVars_none hV
  obtain ⟨n, rfl, rfl, rfl, hwf⟩ := open_int Tryz.underlying3 (hval 0 3 v0 rfl rfl) h0
  clear hA0
  simp only [List.append_nil] at hW'
  obtain ⟨t1, t2⟩ := table hL hsh
  refine (walk t1 t2 n).mono fun e W' ⟨he, e1, e2, e3⟩ => ?_
  subst he
  exact ⟨_, rfl, [.lit (.int .i64 n)], [], [], [], [], [], hW', trodAll_mk1 (shut_bool Tryz.underlying4 _), trodAll_mk1 (shut_int Tryz.underlying3 hwf), rfl, kept e1 e2 e3 _, fun h => by cases h⟩

def lay (cs : Array Value) : Obj → Obj
  | .cells _ t frozen => .cells cs t frozen
  | o => o
def tab0 : Array Value := #[.int .u32 0, .int .u32 0]
def tab1 : Array Value := #[.int .u64 1, .int .u64 10, .int .u64 100, .int .u64 1000, .int .u64 10000, .int .u64 100000, .int .u64 1000000, .int .u64 10000000, .int .u64 100000000, .int .u64 1000000000, .int .u64 10000000000, .int .u64 100000000000, .int .u64 1000000000000, .int .u64 10000000000000, .int .u64 100000000000000, .int .u64 1000000000000000, .int .u64 10000000000000000, .int .u64 100000000000000000, .int .u64 1000000000000000000, .int .u64 10000000000000000000]
def tab3 : Array Value := #[.int .u8 0, .int .u8 1, .int .u8 28, .int .u8 2, .int .u8 29, .int .u8 14, .int .u8 24, .int .u8 3, .int .u8 30, .int .u8 22, .int .u8 20, .int .u8 15, .int .u8 25, .int .u8 17, .int .u8 4, .int .u8 8, .int .u8 31, .int .u8 27, .int .u8 13, .int .u8 23, .int .u8 21, .int .u8 19, .int .u8 16, .int .u8 7, .int .u8 26, .int .u8 12, .int .u8 18, .int .u8 6, .int .u8 11, .int .u8 5, .int .u8 10, .int .u8 9]
def tab4 : Array Value := #[.int .u8 0, .int .u8 1, .int .u8 56, .int .u8 2, .int .u8 57, .int .u8 49, .int .u8 28, .int .u8 3, .int .u8 61, .int .u8 58, .int .u8 42, .int .u8 50, .int .u8 38, .int .u8 29, .int .u8 17, .int .u8 4, .int .u8 62, .int .u8 47, .int .u8 59, .int .u8 36, .int .u8 45, .int .u8 43, .int .u8 51, .int .u8 22, .int .u8 53, .int .u8 39, .int .u8 33, .int .u8 30, .int .u8 24, .int .u8 18, .int .u8 12, .int .u8 5, .int .u8 63, .int .u8 55, .int .u8 48, .int .u8 27, .int .u8 60, .int .u8 41, .int .u8 37, .int .u8 16, .int .u8 46, .int .u8 35, .int .u8 44, .int .u8 21, .int .u8 52, .int .u8 32, .int .u8 23, .int .u8 11, .int .u8 54, .int .u8 26, .int .u8 40, .int .u8 15, .int .u8 34, .int .u8 20, .int .u8 31, .int .u8 10, .int .u8 25, .int .u8 14, .int .u8 19, .int .u8 9, .int .u8 13, .int .u8 8, .int .u8 7, .int .u8 6]
/-- A world for the witness: the settled one, the variables holding what their initialisers lay. -/
noncomputable def laidWorld (os : Os) : World :=
  { World.holding Tryz.prog os ⟨#[], #[], []⟩ with heap := ((((World.holding Tryz.prog os ⟨#[], #[], []⟩).heap.modify 0 (lay tab0)).modify 1 (lay tab1)).modify 3 (lay tab3)).modify 4 (lay tab4) }
theorem laid_met (os : Os) : laidMet Tryz.prog Rows.vMNilRow.laid ((laidWorld os).forCall (fun _ _ => 0) ⟨#[], #[.int .i64 0], []⟩).memory :=
  laidMet_of_run' 8 (by kernel_rfl) (by kernel_rfl)
theorem reads (os : Os) {H : Type} (enc : TypeId × Value → H) : ∃ places, DataW.whole enc Tryz.prog ((laidWorld os).forCall (fun _ _ => 0) ⟨#[], #[.int .i64 0], []⟩).memory Tryz.f4.params.toList Rows.vMNilSpec.vars false #[Value.int .i64 0].toList 8 = some ([.lit (.int .i64 0)], [], places) :=
  ⟨[], by kernel_rfl⟩

set_option maxRecDepth 100000 in
theorem lifted (os : Os) (started : os.Started) (H : Type) (enc : TypeId × Value → H) (F : Stop.Interp) :
    ReturnsInHanded {} Tryz.checked os 4 .any ((OpenSpec.ofChange Rows.vMNilSpec).preRow enc Tryz.prog Tryz.f4 Rows.vMNilRow.domain false Rows.vMNilRow.laid) (((OpenSpec.ofChange Rows.vMNilSpec).at F).post enc Tryz.prog Tryz.f4 false true false false) := by
  obtain ⟨places, hx⟩ := reads os enc
  refine returnsInHanded_of_row (C := Tryz.checked) (s := OpenSpec.ofChange Rows.vMNilSpec) own started (by kernel_rfl) Tryz.func4
    (witness_row_at (enc := enc) (C := Tryz.checked) false (laidWorld os) #[.int .i64 0] rfl (by kernel_rfl) (by kernel_rfl) (by kernel_rfl)
      (OpenSpec.preRow_of_cond 8 hx (by kernel_rfl) (fun k hk => by cases hk) (by kernel_rfl) (laid_met os))) ?_
  intro W base args ds gs before hval hW _ _ _ hL hsh _
  exact contract H enc W base args ds gs before hval hW hL hsh

set_option maxRecDepth 100000 in
theorem said : Rows.VMNilSaid :=
  OpenClaim.holds_of_cond 4 Tryz.f4 rfl rfl rfl rfl rfl rfl rfl ⟨rfl, rfl, rfl, rfl, rfl⟩ rfl rfl rfl rfl rfl (by kernel_rfl) Tryz.func4 (by kernel_rfl)
    (of_decide_eq_true (by kernel_rfl)) (by unfold Func.isWrapper; first | (rw [if_pos (by decide +kernel)]; kernel_rfl) | (rw [if_neg (by decide +kernel)]; exact ⟨rfl, rfl⟩))
    (fun os started H enc _ F => by rw [OpenClaim.pre_eq_preRow]; exact lifted os started H enc F)

theorem plain (f : FuncId) (fn : Func) (hf : Tryz.pinned.checked.prog.funcNamed "drowse/drowselaw19.VMNil" = some f) (hfn : Tryz.pinned.checked.prog.funcs[f]? = some fn) :
    true = Tryz.pinned.checked.prog.looks [] ∧ ∀ (j : Nat) t, fn.params[j]? = some t → Tryz.pinned.checked.prog.wantsStandIn t = false := by
  obtain rfl : f = 4 := Option.some.inj ((show Tryz.prog.funcNamed "drowse/drowselaw19.VMNil" = some 4 by kernel_rfl).symm.trans hf) |>.symm
  obtain rfl : fn = Tryz.f4 := (Option.some.inj (Tryz.func4.symm.trans hfn)).symm
  refine ⟨by kernel_rfl, fun j t ht => ?_⟩
  rw [Tryz.params4] at ht
  obtain rfl : t = 3 := by simpa using Array.mem_of_getElem? ht
  exact (show Tryz.prog.wantsStandIn 3 = false by kernel_rfl)

end Go.Proofs.YtbgjkiebnkaalaaGreatDoor.vMNil
namespace Go.Proofs.YtbgjkiebnkaalaaGreatDoor
theorem vMNil_holds : Rows.VMNilCardSaid :=
  Claim7.holds_tied_plain_at .later [] _ _ _ _ vMNil.said (fun _ h => by cases h) (by kernel_rfl) (fun _ h => by cases h) vMNil_row_tie rfl ⟨rfl, rfl⟩ (by kernel_rfl) rfl vMNil.plain (by kernel_rfl)
#print axioms vMNil_holds
end Go.Proofs.YtbgjkiebnkaalaaGreatDoor
