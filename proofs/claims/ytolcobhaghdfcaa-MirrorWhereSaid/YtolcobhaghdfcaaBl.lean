/- Out of a contract over abstract states: the function returns this, and what was there before is as it was. -/
import Derived.Test.YtolcobhaghdfcaaLw
import Derived.Below
namespace Sx
open Go Go.RowKit
/-- a closed contract: what the function returns, and that nothing old turns -/
theorem below_of {P : Program} {f : Nat} {fn : Func} (hf : P.funcs[f]? = some fn) (hb : fn.body.isSome = true) (hnm : (fn.name == "runtime.NumGoroutine") = false) {avs : List AV} {args : List Value} {rv : AV} {y : Value} {m : Unit → Nat} {post : Unit → List (Nat × Chunk)}
    (hc : ACtr P f 1 avs [] m (fun _ => rv) post) (hargs : AV.evs [] avs = some args) (hrv : ∀ ρ, rv.ev ρ = some y) (hpost : lookc ((0, frm emp) :: post ()) 0 = frm emp ∨ True) (W : World) :
    Calls P f args.toArray W fun e W' => e = .returned y ∧ Below W.heap.size W W' := by
  let F : HProp := fun h => ∀ i, i < W.heap.size → h i = W.heap[i]?
  have hs : Sat (big [0] (lookc ((0, frm F) :: [])) 1) W := ⟨Hp.of W, Hp.le.refl _, star_emp ⟨[], rfl, fun i _ => rfl⟩⟩
  have h := hc F [0] args W rfl (by have := AV.evs_ext [] [0] _ _ hargs; simpa using this) hs
  obtain ⟨c, hc'⟩ := Option.isSome_iff_exists.1 hb
  have hnm' : ¬ fn.name = "runtime.NumGoroutine" := by simpa using hnm
  rcases h with ⟨_, h⟩ | ⟨v, w', h, _⟩
  · refine h.mono fun e W' ⟨v, he, henv, _, σ, _, hv, hsat⟩ => ?_
    rw [hrv] at hv; cases hv
    refine ⟨he, henv.os, henv.tape, henv.output, henv.size, fun i hi => ?_⟩
    have h1 : 0 < 1 + m () := by omega
    obtain ⟨hh, hle, hbig⟩ := hsat.big h1
    rw [lookc_cons, upd_same] at hbig
    obtain ⟨_, _, hF⟩ := hbig
    have h2 : hh i = W.heap[i]? := hF i hi
    have h3 : W.heap[i]? = some W.heap[i] := Array.getElem?_eq_getElem hi
    rw [h3] at h2 ⊢
    exact hle i _ h2
  · exfalso
    have : (callFunc f args.toArray).run P W = .ok (.enter f args.toArray) W := by simp [callFunc, hf, hnm', hc']
    rw [this] at h; cases h
end Sx
namespace Go.Proofs.Ytolcobhaghdfcaa
open Sx Go Go.RowKit
set_option maxRecDepth 100000
theorem law3 (m r k i : Int) (bs : List Int) (hbs : bs.length = 64) (hi : InR i) (W : World) :
    Calls Try.prog 3 #[.agg #[.int .i64 m, .int .i64 r], .agg ([Value.int .i64 k, Value.int .i64 i] ++ bs.map (Value.int .u8)).toArray] W fun e W' => e = .returned (.bool true) ∧ Below W.heap.size W W' :=
  below_of (args := [.agg #[.int .i64 m, .int .i64 r], .agg ([Value.int .i64 k, Value.int .i64 i] ++ bs.map (Value.int .u8)).toArray]) Try.func3 rfl rfl (c3 m r k i bs hbs hi) (by simp [AV.evs, AV.ev, AV.evc, AV.ev1, hbs]) (fun _ => rfl) (.inr trivial) W
end Go.Proofs.Ytolcobhaghdfcaa
