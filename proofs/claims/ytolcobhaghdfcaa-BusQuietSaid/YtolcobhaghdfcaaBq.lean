/- The row on a quiet bus: busQuiet: whatever steps and acts it is called with, it returns true, and what was there before is as it was. -/
import Derived.Test.YtolcobhaghdfcaaOpn
import Derived.Lib.SmallJoins
import Derived.Carry
namespace Sx
open Go Go.RowKit Go.Proofs.Ytolcobhaghdfcaa Go.Proofs.Ytolcobhaghdfcaa.Opn
/-- a contract that reads what was there before, and nothing else -/
theorem below_old {P : Program} {f : Nat} {fn : Func} (hf : P.funcs[f]? = some fn) (hb : fn.body.isSome = true) (hnm : (fn.name == "runtime.NumGoroutine") = false) {avs : List AV} {args : List Value} {rv : AV} {y : Value} {W : World}
    (hc : ACtr P f 2 avs [(1, frm (Old W))] (fun _ : Unit => 0) (fun _ => rv) (fun _ => [(1, frm (Old W))])) (hargs : AV.evs [] avs = some args) (hrv : ∀ ρ, rv.ev ρ = some y) :
    Calls P f args.toArray W fun e W' => e = .returned y ∧ Below W.heap.size W W' := by
  have hs : Sat (big [0, 0] (lookc ((0, frm emp) :: [(1, frm (Old W))])) 2) W := ⟨Hp.of W, Hp.le.refl _, star_mono (fun y hy => ⟨[], rfl, hy⟩) (fun y _ => star_emp ⟨[], rfl, trivial⟩) (star_emp (A := Old W) (fun i _ => rfl))⟩
  have h := hc emp [0, 0] args W rfl (by have := AV.evs_ext [] [0, 0] _ _ hargs; simpa using this) hs
  obtain ⟨c, hc'⟩ := Option.isSome_iff_exists.1 hb
  have hnm' : ¬ fn.name = "runtime.NumGoroutine" := by simpa using hnm
  rcases h with ⟨_, h⟩ | ⟨v, w', h, _⟩
  · refine h.mono fun e W' ⟨v, he, henv, _, σ, _, hv, hsat⟩ => ?_
    rw [hrv] at hv; cases hv
    refine ⟨he, henv.os, henv.tape, henv.output, henv.size, fun i hi => ?_⟩
    obtain ⟨hh, hle, hbig⟩ := hsat.big (c := 1) (by omega)
    obtain ⟨_, _, hF⟩ := hbig
    have h2 : hh i = W.heap[i]? := hF i hi
    have h3 : W.heap[i]? = some W.heap[i] := Array.getElem?_eq_getElem hi
    rw [h3] at h2 ⊢
    exact hle i _ h2
  · exfalso
    have : (callFunc f args.toArray).run P W = .ok (.enter f args.toArray) W := by simp [callFunc, hf, hnm', hc']
    rw [this] at h; cases h
end Sx
namespace Go.Proofs.Ytolcobhaghdfcaa
open Go.ChangeShapes Go.WideShapes Go.ChangeAt Go.RowKit Go.Joins
set_option maxRecDepth 100000
theorem own : ownKnob Try.prog.godebug = none := by kernel_rfl
theorem laidOut : laidOutB Try.prog = true := by kernel_rfl
set_option maxRecDepth 100000 in
theorem bq_lifted (os : Os) (started : os.Started) (H : Type) (enc : TypeId × Value → H) :
    ReturnsInHanded {} Try.checked os 4 .any (Rows.busQuietSpec.pre6 enc Try.prog Try.f4 Rows.busQuietRow.domain false) (Rows.busQuietSpec.post enc Try.prog Try.f4 false true false false) := by
  refine returnsInHanded_of_change_sized (C := Try.checked) own started (by kernel_rfl) Try.func4
    (ChangeSpec.witness6 (enc := enc) (C := Try.checked) false ⟨#[], #[.slice none 0 0, .slice none 0 0], []⟩ 8 (by kernel_rfl) (by kernel_rfl) (by kernel_rfl) (by kernel_rfl)) ?_
  intro W base args ds gs before hval0 hW hcnd hsz0 _
  have hval : ∀ (j : Nat) t v, Try.f4.params[j]? = some t → args[j]? = some v → Value.okWide Try.prog W .any base t v := hval0
  have hW' := hW
  obtain ⟨p, q, hA0, hV, rfl, hfz, hnd⟩ := hW
  have hA : DataW.TrodAll enc Try.prog W 0 (fun _ => true) true Try.f4.params.toList args.toList ds p := hA0
  have hsz : (DataW.weightsEach Try.prog (Try.f4.params.toList ++ Rows.busQuietSpec.plain.varTypes Try.prog) (ds ++ gs)).all (· ≤ reachBytes) = true := hsz0
  rw [Try.params4] at hA hval hsz
  obtain ⟨v0, v1, d0, d1, p0, p1, rfl, rfl, rfl, h0, h1⟩ := trodAll_two hA
  obtain ⟨rfl, rfl⟩ := trodVars_none hV
  obtain ⟨a0, n0, k0, rfl⟩ := okWide_slice Opn.u36 (hval 0 36 v0 rfl rfl)
  obtain ⟨a1, n1, k1, rfl⟩ := okWide_slice Opn.u37 (hval 1 37 v1 rfl rfl)
  obtain ⟨fu0, h0⟩ := h0
  obtain ⟨fu1, h1⟩ := h1
  obtain ⟨sa, sc, l, dl, e0, hnil, hds, hS, hP⟩ := Opn.open36 h0 (fun n hn => by
    have := List.all_eq_true.1 hsz n (DataW.weights_mem_each (j := 0) (t := 36) rfl rfl n hn)
    simpa using this)
  obtain ⟨aa, ac, ys, e1, hys, hA1⟩ := Opn.open37 h1
  rw [e0, e1] at hW' ⊢
  refine (Sx.below_old (args := [.slice sa l.length sc, .slice aa ys.length ac]) Try.func4 rfl rfl (c4 sa sc l dl hds hnil aa ac ys hys (Opn.Old W) hS.rd hA1.rd (fun h hh t h1 h2 => (hP t h1 h2).rd h hh)) rfl (fun _ => rfl)).mono fun e W' ⟨he, hb⟩ => ?_
  subst he
  exact ⟨_, rfl, Sx.law_post (tb := 4) laidOut rfl (by kernel_rfl) (by kernel_rfl) (by kernel_rfl) rfl rfl rfl hW' hb⟩
theorem busQuiet_holds : Rows.BusQuietSaid :=
  OpenClaim.holds_of_wide 4 Try.f4 rfl rfl rfl rfl rfl rfl rfl ⟨rfl, rfl, rfl, rfl, rfl⟩ rfl rfl rfl rfl rfl (by kernel_rfl) Try.func4 (by kernel_rfl)
    (of_decide_eq_true (by kernel_rfl)) (by unfold Func.isWrapper; first | (rw [if_pos (by decide +kernel)]; kernel_rfl) | (rw [if_neg (by decide +kernel)]; exact ⟨rfl, rfl⟩))
    (fun os started H enc _ => bq_lifted os started H enc)
#print axioms busQuiet_holds
end Go.Proofs.Ytolcobhaghdfcaa
