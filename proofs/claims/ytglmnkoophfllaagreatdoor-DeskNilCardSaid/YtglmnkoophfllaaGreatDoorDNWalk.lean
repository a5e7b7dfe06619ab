/-
  DeskNil, the walk: whatever the line, the law returns true and leaves the memory that was there as it was; the listed package-level variable reads as the row says.
-/
import Derived.Test.YtglmnkoophfllaaGreatDoorAEStep5
import Derived.Test.YtglmnkoophfllaaGreatDoorDNR0
import Derived.Test.YtglmnkoophfllaaGreatDoorDNR1
import Derived.Test.YtglmnkoophfllaaGreatDoorDNR2
import Derived.Test.YtglmnkoophfllaaGreatDoorDNR3
import Derived.Test.YtglmnkoophfllaaGreatDoorDNR4
import Derived.Test.YtglmnkoophfllaaGreatDoorDNR5
import Derived.Test.YtglmnkoophfllaaGreatDoorCards
import Derived.Test.YtglmnkoophfllaaGreatDoorDNTie5
import Derived.WalkKit
import Derived.ProofKit
import Derived.ChangeMaps5
import Derived.OpenShut
import Derived.Deep.DeepHandedRow
namespace Go.Proofs.YtglmnkoophfllaaGreatDoor.deskNil
open Go.ChangeShapes Go.WideShapes Go.ChangeAt Go.RowKit Go.AE

theorem own : ownKnob Tryz.prog.godebug = none := by kernel_rfl
theorem gNone : Tryz.prog.globalNamed "drowse/kern.none" = some 1 := by kernel_rfl
theorem tNone : (Tryz.prog.globals[1]?).map (·.type) = some 146 := by kernel_rfl
theorem gSize : Tryz.prog.globals.size = 10 := by kernel_rfl
theorem mixed : Tryz.prog.follows .mixedOrders = true := by kernel_rfl
theorem cells144 : Tryz.prog.cellsOf 144 = 1 := by kernel_rfl
theorem cells146 : Tryz.prog.cellsOf 146 = 2 := by kernel_rfl

def m0 : MP := fun g => if g < 10 then some ⟨g, 0, 0⟩ else none

theorem H0_get (b : Nat) : H0.get b = if b = 1 then some (.cells [.int .u32 0, .int .u32 0] 146 false true 0) else none := by
  simp [H0, AH.get, T.get_set]

theorem startHR {W : World} (hs : 10 ≤ W.heap.size) (h0 : W.heap[1]? = some (.cells #[.int .u32 0, .int .u32 0] 146 (0, 0))) : HR Tryz.prog W m0 H0 W := by
  have hm : ∀ b x, m0 b = some x → b < 10 ∧ x = ⟨b, 0, 0⟩ := by
    intro b x h
    unfold m0 at h
    split at h
    · rename_i hb; simp at h; exact ⟨hb, h.symm⟩
    · cases h
  have ho : ∀ b o, H0.get b = some o → b = 1 ∧ o = .cells [.int .u32 0, .int .u32 0] 146 false true 0 := by
    intro b o h
    rw [H0_get] at h
    split at h
    · rename_i hb; simp at h; exact ⟨hb, h.symm⟩
    · cases h
  refine ⟨fun b o x h1 h2 => ?_, fun b b' o o' x x' h1 h2 h3 h4 hne => ?_, fun b x h => ?_, fun b h => ?_, fun b x h => ?_, fun b o x h1 h2 h3 => ?_, Nat.le_refl _, fun _ _ => rfl, rfl, rfl, rfl⟩
  · obtain ⟨rfl, rfl⟩ := ho b o h1
    obtain ⟨_, rfl⟩ := hm _ _ h2
    refine ⟨_, _, h0, fun i v e => ?_, fun e => (by cases e), fun e => (by cases e), fun _ => ⟨rfl, rfl⟩⟩
    match i, e with
    | 0, e => simp at e; subst e; exact ⟨_, rfl, by simp [conc]⟩
    | 1, e => simp at e; subst e; exact ⟨_, rfl, by simp [conc]⟩
    | i + 2, e => simp at e
  · obtain ⟨_, rfl⟩ := hm _ _ h3
    obtain ⟨_, rfl⟩ := hm _ _ h4
    exact hne
  · exact Nat.lt_trans (hm b x h).1 (by simp [H0])
  · rw [H0_get, if_neg]; intro e; subst e; simp [H0] at h
  · obtain ⟨h1, rfl⟩ := hm b x h; exact Nat.lt_of_lt_of_le h1 hs
  · obtain ⟨_, rfl⟩ := ho b o h1
    simp [AObj.wr] at h2

theorem globals0 : GL Tryz.prog m0 := by
  intro g hg
  rw [gSize] at hg
  simp [m0, hg]

/-- The pieces, one behind the other. -/
theorem ran (z : List UInt8) : ∃ fr H', aenter Tryz.prog 3 [.str z] .normal = some fr ∧ arun Tryz.prog 3 (12000 + (12000 + (12000 + (12000 + (12000 + 20000))))) ⟨fr, [], H0⟩ = some (.bool true, H') := by
  have h0 := piece0 z
  unfold first start at h0
  cases he : aenter Tryz.prog 3 [.str z] .normal with
  | none => rw [he] at h0; cases h0
  | some fr =>
    rw [he] at h0
    simp only at h0
    have h5 := piece5 z
    cases hr : arun Tryz.prog 3 20000 (S4 Tryz.prog z) with
    | none => rw [hr] at h5; cases h5
    | some r =>
      obtain ⟨v, H'⟩ := r
      rw [hr] at h5
      have hv : v = .bool true := by
        unfold good at h5
        split at h5
        · rename_i e; cases e; rfl
        · cases h5
      subst hv
      refine ⟨fr, H', rfl, ?_⟩
      rw [arun_iter h0, arun_iter (piece1 z), arun_iter (piece2 z), arun_iter (piece3 z), arun_iter (piece4 z), hr]

/-- The law, out of the abstract machine's run. -/
theorem walk {W : World} (hs : 10 ≤ W.heap.size) (h0 : W.heap[1]? = some (.cells #[.int .u32 0, .int .u32 0] 146 (0, 0))) (s : ByteArray) :
    Calls Tryz.prog 3 #[.string s] W fun e w' => e = .returned (.bool true) ∧ w'.os = W.os ∧ w'.output = W.output ∧ ∀ c, c < W.heap.size → w'.heap[c]? = W.heap[c]? := by
  obtain ⟨fr, H', he, hr⟩ := ran s.data.toList
  have hc : concL m0 [AV.str s.data.toList] = some (#[Value.string s] : Array Value).toList := by simp [concL, conc]
  refine (calls_of_arun mixed (startHR hs h0) globals0 he hc hr).mono fun e w' ⟨m', u, e1, e2, e3, _⟩ => ?_
  simp [conc] at e2
  subst e2
  exact ⟨e1, e3.os, e3.output, e3.keep⟩

set_option maxRecDepth 100000 in
/-- What the row's list and the program's shape give. -/
theorem table {W : World} (h : laidMetH Tryz.prog Rows.deskNilRow.laid W) (hsh : W.ShapedOpen Tryz.prog) : 10 ≤ W.heap.size ∧ W.heap[1]? = some (.cells #[.int .u32 0, .int .u32 0] 146 (0, 0)) := by
  have hz : ((begin Tryz.prog (fun _ _ => 0) default).world.heap[1]?).bind Obj.row? = some (#[.int .u32 0, .int .u32 0], 146) := by kernel_rfl
  have h4 : (((begin Tryz.prog (fun _ _ => 0) default).world.heap[9]?).bind Obj.row?).isSome = true := by kernel_rfl
  obtain ⟨⟨z4, t4⟩, h4⟩ := Option.isSome_iff_exists.1 h4
  obtain ⟨cs4, e4, _⟩ := hsh.1 9 z4 t4 (by rw [gSize]; omega) h4
  obtain ⟨cs, e0, hcs, _⟩ := hsh.1 1 _ _ (by rw [gSize]; omega) hz
  refine ⟨by have := (Array.getElem?_eq_some_iff.1 e4).1; omega, ?_⟩
  obtain ⟨ps, ⟨g1, t1, c1, f1, p1, q1, _, _, _, _, ⟨g2, t2, c2, f2, p2, q2, _, _, _, _, ⟨g3, t3, c3, f3, p3, q3, _, _, _, _, ⟨g4, t4, c4, f4, p4, q4, _, _, _, _, ⟨g5, t5, c5, f5, p5, q5, _, _, _, _, ⟨g6, t6, c6, f6, p6, q6, _, _, _, _, ⟨g7, t7, c7, f7, p7, q7, _, _, _, _, ⟨g, t, c, fuel, p, q, hg, ht, hv, hd, _, _⟩, _⟩, _⟩, _⟩, _⟩, _⟩, _⟩, _⟩, _, _⟩ := h
  obtain rfl := Option.some.inj (gNone.symm.trans hg)
  obtain rfl := Option.some.inj (tNone.symm.trans ht)
  have hc : c = cs := by
    simp only [World.var?, gNone, Option.bind_some, e0] at hv
    exact (Option.some.inj hv).symm
  subst hc
  obtain ⟨y0, y1, n, hx, hl, r0, r1⟩ := trod_struct2 Tryz.underlying146 hd
  simp only [Prod.mk.injEq, Rows.laid_drowse_kern_none, DataW.agg.injEq, List.cons.injEq] at hx
  have u144 : Tryz.prog.underlying 144 = some (.int .u32) := Tryz.underlying144
  obtain ⟨k0, a0, b0, _⟩ := DataW.trod_int u144 r0
  obtain ⟨k1, a1, b1, _⟩ := DataW.trod_int u144 r1
  rw [cells144] at a0 a1
  rw [cells146] at hl
  obtain ⟨⟨d0, d1, _⟩, _⟩ := hx
  rw [b0] at d0
  rw [b1] at d1
  simp at d0 d1
  subst d0 d1
  obtain ⟨l⟩ := c
  match l, hl, a0, a1 with
  | [x, y], _, a0, a1 =>
    simp at a0 a1
    rw [e0, a0, a1]

theorem kept {W w' : World} (h1 : w'.os = W.os) (h2 : w'.output = W.output) (h3 : ∀ c, c < W.heap.size → w'.heap[c]? = W.heap[c]?) (may : MemPlace → Prop) : W.keptBut w' may := by
  refine ⟨h1, h2, fun i hi => ?_⟩
  rw [h3 i hi]
  have : W.heap[i]? = some W.heap[i] := by simp [hi]
  rw [this]
  cases W.heap[i] <;> simp

set_option maxRecDepth 100000 in
theorem contract (H : Type) (enc : TypeId × Value → H) (W : World) (base : Nat) (args : Array Value) (ds gs : List (DataW H)) (before : List MemPlace)
    (hval : ∀ (j : Nat) t v, Tryz.f3.params[j]? = some t → args[j]? = some v → Value.okWide Tryz.prog W .any base t v)
    (hW : DataW.Whole enc Tryz.prog Tryz.f3.params.toList Rows.deskNilSpec.vars false W args.toList ds gs before) (hL : laidMetH Tryz.prog Rows.deskNilRow.laid W) (hsh : W.ShapedOpen Tryz.prog) :
    Calls Tryz.prog 3 args W fun e W' => ∃ v, e = .returned v ∧ Rows.deskNilSpec.post enc Tryz.prog Tryz.f3 false true false false W args v W' := by
  have hW' := hW
  obtain ⟨p, q, hA0, hV, rfl, hfz, hnd⟩ := hW
  have hA : DataW.TrodAll enc Tryz.prog W 0 (fun _ => true) true Tryz.f3.params.toList args.toList ds p := hA0
  rw [Tryz.params3] at hA hval
  obtain ⟨v0, d0, rfl, rfl, h0⟩ := trodAll_one hA
  obtain ⟨rfl, rfl⟩ := trodVars_none hV
  obtain ⟨s, rfl, rfl, rfl, hwf⟩ := Go.ChangeMaps.open_string Tryz.underlying9 (hval 0 9 v0 rfl rfl) h0
  clear hA0
  simp only [List.append_nil] at hW'
  obtain ⟨t1, t2⟩ := table hL hsh
  refine (walk t1 t2 s).mono fun e W' ⟨he, e1, e2, e3⟩ => ?_
  subst he
  exact ⟨_, rfl, [.lit (.string s.data.toList)], [], [], [], [], [], hW', trodAll_mk1 (shut_bool Tryz.underlying4 _), trodAll_mk1 (Go.ChangeMaps.shut_string Tryz.underlying9 hwf), rfl, kept e1 e2 e3 _, fun h => by cases h⟩

end Go.Proofs.YtglmnkoophfllaaGreatDoor.deskNil
