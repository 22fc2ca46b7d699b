/- Out of a contract that reads what was there before: what a law's call does. -/
import Derived.Test.YtolcobhaghdfcaaOpn
import Derived.Lib.SmallJoins
import Derived.Carry
namespace Sx
open Go Go.RowKit Go.Proofs.Ytolcobhaghdfcaa Go.Proofs.Ytolcobhaghdfcaa.Opn
/-- a contract that reads what was there before, and nothing else -/
theorem below_old {P : Program} {f : Nat} {fn : Func} (hf : P.funcs[f]? = some fn) (hb : fn.body.isSome = true) (hnm : (fn.name == "runtime.NumGoroutine") = false) {avs : List AV} {args : List Value} {rv : AV} {y : Value} {W : World}
    (hc : ACtr P f 2 avs [(1, frm (Old W))] (fun _ : Unit => 0) (fun _ => rv) (fun _ => [(1, frm (Old W))])) (hargs : AV.evs [] avs = some args) (hrv : ∀ ρ, rv.ev ρ = some y) :
    Calls P f args.toArray W fun e W' => e = .returned y ∧ Below W.heap.size W W' := by
  have hs : Sat (big [0, 0] (lookc ((0, frm emp) :: [(1, frm (Old W))])) 2) W := ⟨Hp.of W, Hp.le.refl _, star_mono (fun y hy => ⟨[], rfl, hy⟩) (fun y _ => star_emp ⟨[], rfl, trivial⟩) (star_emp (A := Old W) (fun i _ => rfl))⟩
  have h := hc emp [0, 0] args W rfl (by have := AV.evs_ext [] [0, 0] _ _ hargs; simpa using this) hs
  obtain ⟨c, hc'⟩ := Option.isSome_iff_exists.1 hb
  have hnm' : ¬ fn.name = "runtime.NumGoroutine" := by simpa using hnm
  rcases h with ⟨_, h⟩ | ⟨v, w', h, _⟩
  · refine h.mono fun e W' ⟨v, he, henv, _, σ, _, hv, hsat⟩ => ?_
    rw [hrv] at hv; cases hv
    refine ⟨he, henv.os, henv.tape, henv.output, henv.size, fun i hi => ?_⟩
    obtain ⟨hh, hle, hbig⟩ := hsat.big (c := 1) (by omega)
    obtain ⟨_, _, hF⟩ := hbig
    have h2 : hh i = W.heap[i]? := hF i hi
    have h3 : W.heap[i]? = some W.heap[i] := Array.getElem?_eq_getElem hi
    rw [h3] at h2 ⊢
    exact hle i _ h2
  · exfalso
    have : (callFunc f args.toArray).run P W = .ok (.enter f args.toArray) W := by simp [callFunc, hf, hnm', hc']
    rw [this] at h; cases h
end Sx
