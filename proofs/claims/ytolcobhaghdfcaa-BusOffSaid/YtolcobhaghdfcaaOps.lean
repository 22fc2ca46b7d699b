/- Rules for the operations that the abstract machine does not reckon itself. -/
import Derived.Test.YtolcobhaghdfcaaLoop
import Derived.Laws.Small
import Derived.Laws.AppendOwn
namespace Sx
open Go

theorem op_of_other {tb : Tb} {dst : Option Nat} {T : TypeId} {op : Op} {d : Option Nat} {o : Op} {T' : TypeId} (h : opWith tb dst T op = some (.other d o T')) : op = o ∧ dst = d ∧ T = T' := by
  unfold opWith at h
  split at h
  all_goals try simp only [Option.map_eq_some_iff, Option.bind_eq_some_iff] at h
  · obtain ⟨z, hz, h⟩ := h; cases h
  · obtain ⟨z, hz, h⟩ := h; cases h
  · obtain ⟨z1, h1, z2, h2, h⟩ := h; cases h
  · obtain ⟨i, hi, h⟩ := h; cases h
  · obtain ⟨z, hz, h⟩ := h; cases h
  · obtain ⟨i, hi, pl, hpl, l, hl, h⟩ := h; cases h
  · obtain ⟨i, hi, h⟩ := h
    split at h
    · simp only [Option.bind_eq_some_iff] at h
      obtain ⟨j, hj, h⟩ := h
      rcases cond_some h with ⟨h1, h2⟩ | ⟨_, h2⟩
      · simp only [Option.map_eq_some_iff] at h2
        obtain ⟨l, hl, h⟩ := h2; cases h
      · cases h2
    · cases h
  · obtain ⟨i, hi, z, hz, h⟩ := h; cases h
  · obtain ⟨i, hi, z, hz, u, hu, h⟩ := h; cases h
  · obtain ⟨z, hz, h⟩ := h; cases h
  · obtain ⟨z, hz, u, hu, h⟩ := h
    split at h
    · split at h
      · rename_i o' he
        subst h
        simp only [eqOp, Option.bind_eq_some_iff] at he
        obtain ⟨i, hi, he⟩ := he
        split at he
        · cases he
        · cases he
        · cases he
        · cases he
        · cases he
        · simp only [Option.bind_eq_some_iff] at he
          obtain ⟨j, hj, he⟩ := he
          split at he
          · rcases cond_some he with ⟨h1, h2⟩ | ⟨_, h2⟩
            · cases h2
            · cases h2
          · cases he
        · cases he
      · split at h
        · cases h
        · cases h; exact ⟨rfl, rfl, rfl⟩
    · cases h
  · obtain ⟨z, hz, h⟩ := h; cases h
  · obtain ⟨i, hi, h⟩ := h
    split at h
    · simp only [Option.bind_eq_some_iff] at h
      obtain ⟨p, hp, j, hj, h⟩ := h
      rcases cond_some h with ⟨_, h2⟩ | ⟨h1, h2⟩
      · cases h2
      · simp only [Option.map_eq_some_iff] at h2
        obtain ⟨z, hz, h⟩ := h2; cases h
    · cases h
  · obtain ⟨i, hi, h⟩ := h
    split at h
    · simp only [Option.bind_eq_some_iff, Option.map_eq_some_iff] at h
      obtain ⟨p, hp, j, hj, z, hz, h⟩ := h; cases h
    · cases h
  · obtain ⟨i, hi, h⟩ := h
    split at h
    · simp only [Option.bind_eq_some_iff, Option.map_eq_some_iff] at h
      obtain ⟨j, hj, z, hz, u, hu, h⟩ := h; cases h
    · simp only [Option.bind_eq_some_iff, Option.map_eq_some_iff] at h
      obtain ⟨j, hj, z, hz, u, hu, h⟩ := h; cases h
    · cases h
  · obtain ⟨z, hz, h⟩ := h; cases h
  · obtain ⟨z, hz, u, hu, h⟩ := h; cases h
  · obtain ⟨z, hz, u, hu, h⟩ := h; cases h
  · obtain ⟨t, h0, i, hi, h⟩ := h
    split at h
    · simp only [Option.map_eq_some_iff] at h
      obtain ⟨z, hz, h⟩ := h; cases h
    · cases h; exact ⟨rfl, rfl, rfl⟩
  · obtain ⟨i, hi, j, hj, h⟩ := h
    split at h
    · simp only [Option.map_eq_some_iff] at h
      obtain ⟨z, hz, h⟩ := h; cases h
    · cases h; exact ⟨rfl, rfl, rfl⟩
  · obtain ⟨i, hi, h⟩ := h
    split at h
    · simp only [Option.bind_eq_some_iff, Option.map_eq_some_iff] at h
      obtain ⟨j, hj, z, hz, xl, hl, xh, hh, xm, hm, h⟩ := h; cases h
    · simp only [Option.bind_eq_some_iff, Option.map_eq_some_iff] at h
      obtain ⟨j, hj, z, hz, xl, hl, xh, hh, xm, hm, h⟩ := h; cases h
    · cases h; exact ⟨rfl, rfl, rfl⟩
  · cases h; exact ⟨rfl, rfl, rfl⟩

theorem stabK_same {ρ : List Nat} {stk : List K} {ch : List (Nat × Chunk)} (h : DrOk ρ stk ch) : stabK stk ch := by
  cases stk with
  | nil => trivial
  | cons x k =>
    cases x with
    | dops lv ρ0 sch ops l => cases lv with
      | true => exact h.2.1
      | false => trivial
    | _ => trivial

/-- an operation that only reckons a value -/
theorem ev_val {cx : Cx} {p : Prop} {d : Nat} {T : TypeId} {o : Op} {rv : AV} {stk : List K} {fr : List (Nat × AV)} {ch : List (Nat × Chunk)} {nx : Nat} (hp : p)
    (hrun : ∀ ρ (a : Act) w (x : Oper), FrOk ρ fr a → ρ.length = nx → Each ρ ch nx w → x.op = o → x.type = T → ∃ y, rv.ev ρ = some y ∧ (execOp a.eval x).run cx.P w = .ok (.value y) w)
    (hG : Good cx ⟨stk, (d, rv) :: fr, ch, nx⟩) : EvOk cx (.op p (.other (some d) o T) stk fr ch nx) := by
  refine ⟨hp, fun ρ a w H x hx hop => ?_⟩
  obtain ⟨h1, h2, h3⟩ := op_of_other hop
  obtain ⟨y, hy, hr⟩ := hrun ρ a w x H.fr H.len H.sat.each h1 h3
  rw [h2] at hx
  left
  simp only [Oper.wp, hr, Oper.upon, h2]
  exact land (σ := []) H hx (by simpa using H.len) (by simpa using hy) (by simpa using H.sat) (Env.refl w) (stabK_same H.dr) hG
theorem argv_int {ρ : List Nat} {fr : List (Nat × AV)} {a : Act} (H : FrOk ρ fr a) {x : Operand} {z : Arg} {v : AV} {y : Value} (hx : argOf x = some z) (hv : argv fr z = some v) (he : v.ev ρ = some y) : a.eval x = y := by
  have := argOf_ok H hx hv
  rw [he] at this
  exact (Option.some.inj this).symm
theorem ev_min {cx : Cx} {p : Prop} {d : Nat} {T : TypeId} {o1 o2 : Operand} {ts : Array TypeId} {k : IntKind} {m n : Int} {stk : List K} {fr : List (Nat × AV)} {ch : List (Nat × Chunk)} {nx : Nat} {z1 z2 : Arg} (hp : p)
    (h1 : argOf o1 = some z1) (h2 : argOf o2 = some z2) (h3 : argv fr z1 = some (.v (.int k m))) (h4 : argv fr z2 = some (.v (.int k n)))
    (hG : Good cx ⟨stk, (d, .v (.int k (if n < m then n else m))) :: fr, ch, nx⟩) : EvOk cx (.op p (.other (some d) (.call ⟨.builtin .min, #[o1, o2], ts⟩) T) stk fr ch nx) := by
  refine ev_val hp (fun ρ a w x H _ _ hx hT => ⟨_, rfl, ?_⟩) hG
  have e1 := argv_int H h1 h3 rfl
  have e2 := argv_int H h2 h4 rfl
  simp [execOp, hx, resolve, e1, e2, invoke, builtin, run_min_int2]
theorem ev_max {cx : Cx} {p : Prop} {d : Nat} {T : TypeId} {o1 o2 : Operand} {ts : Array TypeId} {k : IntKind} {m n : Int} {stk : List K} {fr : List (Nat × AV)} {ch : List (Nat × Chunk)} {nx : Nat} {z1 z2 : Arg} (hp : p)
    (h1 : argOf o1 = some z1) (h2 : argOf o2 = some z2) (h3 : argv fr z1 = some (.v (.int k m))) (h4 : argv fr z2 = some (.v (.int k n)))
    (hG : Good cx ⟨stk, (d, .v (.int k (if n > m then n else m))) :: fr, ch, nx⟩) : EvOk cx (.op p (.other (some d) (.call ⟨.builtin .max, #[o1, o2], ts⟩) T) stk fr ch nx) := by
  refine ev_val hp (fun ρ a w x H _ _ hx hT => ⟨_, rfl, ?_⟩) hG
  have e1 := argv_int H h1 h3 rfl
  have e2 := argv_int H h2 h4 rfl
  simp [execOp, hx, resolve, e1, e2, invoke, builtin, run_max_int2]
end Sx
