/- The row on a bus that is off: busOff: whatever acts and picks it is called with, it returns true, and what was there before is as it was. -/
import Derived.Test.YtolcobhaghdfcaaOpb
import Derived.Test.YtolcobhaghdfcaaOff
namespace Go.Proofs.Ytolcobhaghdfcaa
open Go.ChangeShapes Go.WideShapes Go.ChangeAt Go.RowKit Go.Joins
set_option maxRecDepth 100000
theorem own : ownKnob Try.prog.godebug = none := by kernel_rfl
theorem laidOut : laidOutB Try.prog = true := by kernel_rfl
set_option maxRecDepth 100000 in
theorem bo_lifted (os : Os) (started : os.Started) (H : Type) (enc : TypeId × Value → H) :
    ReturnsInHanded {} Try.checked os 6 .any (Rows.busOffSpec.pre6 enc Try.prog Try.f6 Rows.busOffRow.domain false) (Rows.busOffSpec.post enc Try.prog Try.f6 false true false false) := by
  refine returnsInHanded_of_change_sized (C := Try.checked) own started (by kernel_rfl) Try.func6
    (ChangeSpec.witness6 (enc := enc) (C := Try.checked) false ⟨#[], #[.slice none 0 0, .slice none 0 0, .slice none 0 0], []⟩ 8 (by kernel_rfl) (by kernel_rfl) (by kernel_rfl) (by kernel_rfl)) ?_
  intro W base args ds gs before hval0 hW hcnd hsz0 _
  have hval : ∀ (j : Nat) t v, Try.f6.params[j]? = some t → args[j]? = some v → Value.okWide Try.prog W .any base t v := hval0
  have hW' := hW
  obtain ⟨p, q, hA0, hV, rfl, hfz, hnd⟩ := hW
  have hA : DataW.TrodAll enc Try.prog W 0 (fun _ => true) true Try.f6.params.toList args.toList ds p := hA0
  have hsz : (DataW.weightsEach Try.prog (Try.f6.params.toList ++ Rows.busOffSpec.plain.varTypes Try.prog) (ds ++ gs)).all (· ≤ reachBytes) = true := hsz0
  rw [Try.params6] at hA hval hsz
  obtain ⟨v0, vs0, d0, ds0, p0, q0, hargs, rfl, rfl, h0, r0⟩ := trodAll_cons hA
  obtain ⟨v1, vs1, d1, ds1, p1, q1, rfl, rfl, rfl, h1, r1⟩ := trodAll_cons r0
  obtain ⟨v2, vs2, d2, ds2, p2, q2, rfl, rfl, rfl, h2, r2⟩ := trodAll_cons r1
  obtain ⟨rfl, rfl, rfl⟩ := trodAll_nil r2
  obtain rfl : args = #[v0, v1, v2] := by cases args; simp_all
  obtain ⟨rfl, rfl⟩ := trodVars_none hV
  obtain ⟨a0, n0, k0, rfl⟩ := okWide_slice Opn.u37 (hval 0 37 v0 rfl rfl)
  obtain ⟨a1, n1, k1, rfl⟩ := okWide_slice Opn.u37 (hval 1 37 v1 rfl rfl)
  obtain ⟨a2, n2, k2, rfl⟩ := okWide_slice Opn.u38 (hval 2 38 v2 rfl rfl)
  obtain ⟨fu0, h0⟩ := h0
  obtain ⟨fu1, h1⟩ := h1
  obtain ⟨fu2, h2⟩ := h2
  obtain ⟨aa, ac, ys, e0, hys, hA1⟩ := Opn.open37 h0
  obtain ⟨ba, bc, zl, e1, hzs, hB1⟩ := Opn.open37 h1
  obtain ⟨ps, ⟨pa, pc⟩, e2, hpn, _, hP1⟩ := Opn.open38 h2 (fun n hn => by
    have := List.all_eq_true.1 hsz n (DataW.weights_mem_each (j := 2) (t := 38) rfl rfl n hn)
    simpa using this)
  have e2' : (Value.slice a2 n2 k2) = .slice pa ps.length pc := by
    have := congrArg List.head? e2
    simpa [Value.cells] using this
  rw [e0, e1, e2'] at hW' ⊢
  refine (Sx.below_old (args := [.slice aa ys.length ac, .slice ba zl.length bc, .slice pa ps.length pc]) Try.func6 rfl rfl (c6 aa ac ys hys ba bc zl hzs pa pc ps hpn (Opn.Old W) hA1.rd hB1.rd (Opn.Rds.rd hP1)) rfl (fun _ => rfl)).mono fun e W' ⟨he, hb⟩ => ?_
  subst he
  exact ⟨_, rfl, Sx.law_post (tb := 4) laidOut rfl (by kernel_rfl) (by kernel_rfl) (by kernel_rfl) rfl rfl rfl hW' hb⟩
theorem busOff_holds : Rows.BusOffSaid :=
  OpenClaim.holds_of_wide 6 Try.f6 rfl rfl rfl rfl rfl rfl rfl ⟨rfl, rfl, rfl, rfl, rfl⟩ rfl rfl rfl rfl rfl (by kernel_rfl) Try.func6 (by kernel_rfl)
    (of_decide_eq_true (by kernel_rfl)) (by unfold Func.isWrapper; first | (rw [if_pos (by decide +kernel)]; kernel_rfl) | (rw [if_neg (by decide +kernel)]; exact ⟨rfl, rfl⟩))
    (fun os started H enc _ => bo_lifted os started H enc)
#print axioms busOff_holds
end Go.Proofs.Ytolcobhaghdfcaa
