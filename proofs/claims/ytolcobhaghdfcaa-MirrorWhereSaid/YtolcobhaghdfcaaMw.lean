/- The row on places: mirrorWhere. -/
import Derived.Test.YtolcobhaghdfcaaRw
import Derived.Test.YtolcobhaghdfcaaBl
import Derived.ProofKit
import Derived.OpenShut
import Derived.Lib.SmallJoins
import Derived.Carry
namespace Go.Proofs.Ytolcobhaghdfcaa
open Go.ChangeShapes Go.WideShapes Go.ChangeAt Go.RowKit Go.Joins
set_option maxRecDepth 100000
theorem Try.own : ownKnob Try.prog.godebug = none := by kernel_rfl
theorem Try.laidOut : laidOutB Try.prog = true := by kernel_rfl
theorem u3 : Try.prog.underlying 3 = some (.int .i64) := by kernel_rfl
theorem u5 : Try.prog.underlying 5 = some (.int .u8) := by kernel_rfl
theorem u23 : Try.prog.underlying 23 = some (.struct #[{ name := "Members", type := 3, offset := 0, embedded := false, tag := "", pkgPath := "", byteOffset := 0 }, { name := "Rows", type := 3, offset := 1, embedded := false, tag := "", pkgPath := "", byteOffset := 8 }]) := by kernel_rfl
theorem u27 : Try.prog.underlying 27 = some (.struct #[{ name := "Region", type := 3, offset := 0, embedded := false, tag := "", pkgPath := "", byteOffset := 0 }, { name := "Index", type := 3, offset := 1, embedded := false, tag := "", pkgPath := "", byteOffset := 8 },
  { name := "Data", type := 25, offset := 2, embedded := false, tag := "", pkgPath := "", byteOffset := 16 }]) := by kernel_rfl
theorem u25 : Try.prog.underlying 25 = some (.array 64 5) := by kernel_rfl
theorem ints_of : ∀ (l : List Value), (∀ j, j < l.length → ∃ q : Int, l[j]? = some (.int .u8 q)) → ∃ bs : List Int, l = bs.map (Value.int .u8)
  | [], _ => ⟨[], rfl⟩
  | v :: r, h => by
    obtain ⟨q, hq⟩ := h 0 (by simp)
    obtain ⟨bs, hbs⟩ := ints_of r fun j hj => by simpa using h (j + 1) (by simpa using hj)
    simp at hq
    exact ⟨q :: bs, by rw [hq, hbs]; rfl⟩
theorem wfI {n : Int} (h : (Lit.int .i64 n).wf = true) : Sx.InR n := by
  have := bounds_i64 h
  unfold Sx.InR; omega
theorem open23 {H : Type} {enc : TypeId × Value → H} {W : World} {base b0 : Nat} {spare : Nat → Bool} {held : Bool} {r : Reach} {v : Value} {d : DataW H} {p : List MemPlace} (hv : Value.okWide Try.prog W r b0 23 v) (h : DataW.Trod enc Try.prog W base spare held 23 v d p) :
    ∃ m n : Int, v = .agg #[.int .i64 m, .int .i64 n] := by
  obtain ⟨v0, v1, y0, y1, k, rfl, rfl, rfl, h0, h1⟩ := open_agg2 u23 (by kernel_rfl) (by kernel_rfl) hv h
  obtain ⟨a, e0, _, _⟩ := DataW.trod_int u3 h0
  obtain ⟨b, e1, _, _⟩ := DataW.trod_int u3 h1
  simp at e0 e1
  subst e0 e1
  exact ⟨a, b, rfl⟩
theorem open27 {H : Type} {enc : TypeId × Value → H} {W : World} {base b0 : Nat} {spare : Nat → Bool} {held : Bool} {r : Reach} {v : Value} {d : DataW H} {p : List MemPlace} (hv : Value.okWide Try.prog W r b0 27 v) (h : DataW.Trod enc Try.prog W base spare held 27 v d p) :
    ∃ (k i : Int) (bs : List Int), v = .agg ([Value.int .i64 k, Value.int .i64 i] ++ bs.map (Value.int .u8)).toArray ∧ bs.length = 64 ∧ Sx.InR i := by
  obtain ⟨cs, rfl, hsz⟩ := okWide_struct u27 hv
  obtain ⟨fuel, hf⟩ := h
  obtain ⟨xs, n, _, hx, hl, hlen, hfs⟩ := DataW.trod_struct u27 hf
  have hcl : (Value.agg cs).cells.toList = cs.toList := rfl
  simp only [hcl] at hl hfs
  clear hcl hf hv
  have c27 : Try.prog.cellsOf 27 = 66 := by kernel_rfl
  have c3 : Try.prog.cellsOf 3 = 1 := by kernel_rfl
  have c25 : Try.prog.cellsOf 25 = 64 := by kernel_rfl
  have c5 : Try.prog.cellsOf 5 = 1 := by kernel_rfl
  have hl' : cs.toList.length = 66 := by rw [← c27, ← hl]
  have hx3 : xs.length = 3 := hlen
  have g0 := hfs 0 { name := "Region", type := 3, offset := 0, embedded := false, tag := "", pkgPath := "", byteOffset := 0 } rfl
  have g1 := hfs 1 { name := "Index", type := 3, offset := 1, embedded := false, tag := "", pkgPath := "", byteOffset := 8 } rfl
  have g2 := hfs 2 { name := "Data", type := 25, offset := 2, embedded := false, tag := "", pkgPath := "", byteOffset := 16 } rfl
  rw [List.getElem?_eq_getElem (by omega)] at g0 g1 g2
  simp only [c3, c25] at g0 g1 g2
  obtain ⟨k, e0, _, _⟩ := DataW.trod_int u3 g0
  obtain ⟨i, e1, _, w1⟩ := DataW.trod_int u3 g1
  obtain ⟨ys, m, _, _, hyl, hyn, hys⟩ := DataW.trod_array u25 g2
  have hb : ∀ j, j < 64 → ∃ q : Int, ((cs.toList.drop 2).take 64)[j]? = some (.int .u8 q) := fun j hj => by
    have := hys j hj
    rw [List.getElem?_eq_getElem (by omega), c5, Nat.mul_one] at this
    obtain ⟨q, e, _, _⟩ := DataW.trod_int u5 this
    refine ⟨q, ?_⟩
    have := congrArg List.head? e
    simpa [List.head?_take, List.head?_drop] using this
  obtain ⟨cs⟩ := cs
  simp only at hl' e0 e1 hb
  clear hfs hl g0 g1 g2 hyl hys hsz
  match cs, hl' with
  | a :: b :: rest, hl' =>
    simp at e0 e1 hl'
    subst e0 e1
    obtain ⟨bs, hbs⟩ := ints_of rest fun j hj => by
      obtain ⟨q, hq⟩ := hb j (by omega)
      refine ⟨q, ?_⟩
      simp only [List.drop_succ_cons, List.drop_zero, List.getElem?_take] at hq
      rw [if_pos (by omega)] at hq; exact hq
    refine ⟨k, i, bs, by rw [hbs]; rfl, ?_, wfI w1⟩
    rw [hbs] at hl'
    simpa using hl'
set_option maxRecDepth 100000 in
theorem mw_lifted (os : Os) (started : os.Started) (H : Type) (enc : TypeId × Value → H) :
    ReturnsInHanded {} Try.checked os 3 .any (Rows.mirrorWhereSpec.pre6 enc Try.prog Try.f3 Rows.mirrorWhereRow.domain false) (Rows.mirrorWhereSpec.post enc Try.prog Try.f3 false true false false) := by
  refine returnsInHanded_of_change (C := Try.checked) Try.own started (by kernel_rfl) Try.func3
    (ChangeSpec.witness6 (enc := enc) (C := Try.checked) false ⟨#[], #[.agg #[.int .i64 0, .int .i64 0], .agg #[.int .i64 0, .int .i64 0, .int .u8 0, .int .u8 0, .int .u8 0, .int .u8 0, .int .u8 0, .int .u8 0, .int .u8 0, .int .u8 0, .int .u8 0, .int .u8 0, .int .u8 0, .int .u8 0, .int .u8 0, .int .u8 0, .int .u8 0, .int .u8 0,
      .int .u8 0, .int .u8 0, .int .u8 0, .int .u8 0, .int .u8 0, .int .u8 0, .int .u8 0, .int .u8 0, .int .u8 0, .int .u8 0, .int .u8 0, .int .u8 0, .int .u8 0, .int .u8 0, .int .u8 0, .int .u8 0, .int .u8 0, .int .u8 0, .int .u8 0, .int .u8 0, .int .u8 0, .int .u8 0, .int .u8 0, .int .u8 0,
      .int .u8 0, .int .u8 0, .int .u8 0, .int .u8 0, .int .u8 0, .int .u8 0, .int .u8 0, .int .u8 0, .int .u8 0, .int .u8 0, .int .u8 0, .int .u8 0, .int .u8 0, .int .u8 0, .int .u8 0, .int .u8 0, .int .u8 0, .int .u8 0, .int .u8 0, .int .u8 0, .int .u8 0, .int .u8 0, .int .u8 0, .int .u8 0]], []⟩ 8 (by kernel_rfl) (by kernel_rfl) (by kernel_rfl) (by kernel_rfl)) ?_
  intro W base args ds gs before hval0 hW hcnd _
  have hval : ∀ (j : Nat) t v, Try.f3.params[j]? = some t → args[j]? = some v → Value.okWide Try.prog W .any base t v := hval0
  have hW' := hW
  obtain ⟨p, q, hA0, hV, rfl, hfz, hnd⟩ := hW
  have hA : DataW.TrodAll enc Try.prog W 0 (fun _ => true) true Try.f3.params.toList args.toList ds p := hA0
  rw [Try.params3] at hA hval
  obtain ⟨v0, v1, d0, d1, p0, p1, rfl, rfl, rfl, h0, h1⟩ := trodAll_two hA
  obtain ⟨rfl, rfl⟩ := trodVars_none hV
  obtain ⟨m, n, rfl⟩ := open23 (hval 0 23 v0 rfl rfl) h0
  obtain ⟨k, i, bs, rfl, hbs, hi⟩ := open27 (hval 1 27 v1 rfl rfl) h1
  refine (law3 m n k i bs hbs hi W).mono fun e W' ⟨he, hb⟩ => ?_
  subst he
  exact ⟨_, rfl, Sx.law_post (tb := 4) Try.laidOut rfl (by kernel_rfl) (by kernel_rfl) (by kernel_rfl) rfl rfl rfl hW' hb⟩
theorem mirrorWhere_holds : Rows.MirrorWhereSaid :=
  OpenClaim.holds_of_wide 3 Try.f3 rfl rfl rfl rfl rfl rfl rfl ⟨rfl, rfl, rfl, rfl, rfl⟩ rfl rfl rfl rfl rfl (by kernel_rfl) Try.func3 (by kernel_rfl)
    (of_decide_eq_true (by kernel_rfl)) (by unfold Func.isWrapper; first | (rw [if_pos (by decide +kernel)]; kernel_rfl) | (rw [if_neg (by decide +kernel)]; exact ⟨rfl, rfl⟩))
    (fun os started H enc _ => mw_lifted os started H enc)
#print axioms mirrorWhere_holds
end Go.Proofs.Ytolcobhaghdfcaa
