/- Contracts of package member: the copy of a map, settling, flush, crash. -/
import Derived.Test.YtolcobhaghdfcaaMem
import Derived.Laws.Externs
namespace Go.Proofs.Ytolcobhaghdfcaa
open Sx Go
set_option maxRecDepth 100000
noncomputable def fnC : Func := (Try.prog.funcs[116]?).getD default
theorem fnC_is : Try.prog.funcs[116]? = some fnC := by
  have h : (Try.prog.funcs[116]?).isSome = true := by kernel_rfl
  unfold fnC
  cases e : Try.prog.funcs[116]? with
  | none => rw [e] at h; cases h
  | some x => rfl
theorem run_clone {w : World} {r : Nat} {es : Array MapEntry} {clock : Nat} (t : TypeId) (hb : w.heap[r]? = some (.map es clock)) :
    (Extern.MapsClone.clone #[.iface t (.map (some r))]).run Try.prog w = .ok (.iface t (.map (some w.heap.size))) (w.alloc (.map es clock)) := by
  have e : Extern.MapsClone.clone #[.iface t (.map (some r))] = (getObj r >>= fun o => match o with
      | .map entries clock => (newObj (.map entries clock) >>= fun n => pure (.iface t (.map (some n))))
      | _ => stuck "maps.clone: a map expected") := rfl
  rw [e]
  simp [MapKept.run_getObj_map hb, Result.andThen, newObj, Sem.run]
theorem c116 (g : Img) (r : Nat) : ACtr Try.prog 116 2 [.v (.iface 137 (.map (some r)))] [(1, frm (imgA g r))] (fun _ : Nat => 1) (fun r' => .v (.iface 137 (.map (some r')))) (fun r' => [(1, frm (imgA g r)), (2, frm (imgA g r'))]) := by
  intro F ρ vs w hn hvs hsat
  simp only [AV.evs, AV.ev, Option.bind_some, Option.map_some, Option.some.injEq] at hvs
  subst hvs
  obtain ⟨es, clock, hw, hi⟩ := img_get (k := 1) hsat (by omega) rfl
  refine .inr ⟨.iface 137 (.map (some w.heap.size)), w.alloc (.map es clock), ?_, Env.new w _, w.heap.size, [0], rfl, rfl, ?_⟩
  · rw [run_callFunc_extern fnC_is (by kernel_rfl) (by kernel_rfl) (by kernel_rfl) (e := Extern.MapsClone.clone) (by kernel_rfl), run_clone 137 hw]
    rfl
  · refine (hsat.new (.map es clock)).mono fun h hh => ?_
    show star _ (big _ _ 2) h
    refine star_mono (fun y hy => ⟨[], rfl, es, clock, hy, hi⟩) (fun y hy => ?_) hh
    rw [big_congr (g' := lookc ((0, frm F) :: [(1, frm (imgA g r))])) (fun i hi => by
      rcases (show i = 0 ∨ i = 1 by omega) with rfl | rfl <;> rfl)]
    exact big_ext hy
theorem ev_mkif {cx : Cx} {p : Prop} {d : Nat} {T t : TypeId} {o1 : Operand} {z1 : Arg} {v : Value} {dd : TypeDesc} {stk : List K} {fr : List (Nat × AV)} {ch : List (Nat × Chunk)} {nx : Nat} (hp : p) (h1 : argOf o1 = some z1) (h3 : argv fr z1 = some (.v v)) (hu : cx.P.underlying t = some dd) (hd : (match dd with | .interface _ => false | _ => true) = true)
    (hG : Good cx ⟨stk, (d, .v (.iface t v)) :: fr, ch, nx⟩) : EvOk cx (.op p (.other (some d) (.makeInterface t o1) T) stk fr ch nx) := by
  refine ev_val hp (fun ρ a w x H _ _ hx hT => ⟨_, rfl, ?_⟩) hG
  have e1 := argv_int H h1 h3 rfl
  cases dd <;> first | (simp at hd; done) | simp [execOp, hx, e1, Instr.makeInterface, run_underlying hu]
theorem ev_assert {cx : Cx} {p : Prop} {d : Nat} {T t xT : TypeId} {o1 : Operand} {z1 : Arg} {v : Value} {dd : TypeDesc} {stk : List K} {fr : List (Nat × AV)} {ch : List (Nat × Chunk)} {nx : Nat} (hp : p) (h1 : argOf o1 = some z1) (h3 : argv fr z1 = some (.v (.iface t v))) (hu : cx.P.underlying t = some dd) (hd : (match dd with | .interface _ => false | _ => true) = true)
    (hG : Good cx ⟨stk, (d, .v v) :: fr, ch, nx⟩) : EvOk cx (.op p (.other (some d) (.typeAssert o1 xT t false) T) stk fr ch nx) := by
  refine ev_val hp (fun ρ a w x H _ _ hx hT => ⟨_, rfl, ?_⟩) hG
  have e1 := argv_int H h1 h3 rfl
  cases dd <;> first | (simp at hd; done) | simp [execOp, hx, e1, Instr.typeAssert, run_underlying hu]
theorem u137 : Try.prog.underlying 137 = some (.map 3 25) := by kernel_rfl
theorem c66 (g : Img) (r : Nat) : ACtr Try.prog 66 2 [MA r] [(1, frm (imgA g r))] (fun _ : Nat => 1) (fun r' => MA r') (fun r' => [(1, frm (imgA g r)), (2, frm (imgA g r'))]) := by
  refine act Try.func66 rfl rfl rfl A66_ok rfl fun F w0 bb => ?_
  refine on ?_
  refine ev_mkif trivial rfl rfl u137 rfl ?_
  refine on ?_
  refine call_ab trivial (c116 g r) [1] rfl rfl rfl rfl rfl ⟨rfl, trivial⟩ (fun _ => rfl) (fun _ => rfl) (fun _ => trivial) (fun r' => ?_)
  refine on ?_
  refine ev_assert trivial rfl rfl u137 rfl ?_
  refine on ?_
  exact retE trivial rfl r' [0, 1, 2] rfl rfl rfl rfl ⟨_, rfl, fun ρ => rfl⟩ ⟨rfl, rfl, rfl, trivial⟩
end Go.Proofs.Ytolcobhaghdfcaa
