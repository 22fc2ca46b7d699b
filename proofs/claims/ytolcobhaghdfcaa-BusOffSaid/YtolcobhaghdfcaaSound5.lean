/- What 'step' reckons is what the model's operation does: slices, and all operations together. -/
import Derived.Test.YtolcobhaghdfcaaSound4
namespace Sx
open Go
section
variable {P : Program} {tb : Tb} {a : Act} {w : World} {ρ : List Nat} {fr : List (Nat × AV)} {ch : List (Nat × Chunk)} {nx : Nat}

theorem optv_ok (H : FrOk ρ fr a) {o : Option Operand} {x : Option Arg} {dflt n : Int} (hx : optOf o = some x) (h : optv fr dflt x = some n) :
    (o = none ∧ x = none ∧ n = dflt) ∨ ∃ y k, o = some y ∧ x.isSome = true ∧ a.eval y = .int k n := by
  cases o with
  | none => simp [optOf] at hx; subst hx; simp [optv] at h; exact .inl ⟨rfl, rfl, h.symm⟩
  | some y =>
    simp only [optOf, Option.map_eq_some_iff] at hx
    obtain ⟨z, hz, rfl⟩ := hx
    simp only [optv] at h
    split at h
    · rename_i k q hv
      cases h
      have := argOf_ok H hz hv
      simp only [AV.ev, Option.some.injEq] at this
      exact .inr ⟨y, k, rfl, rfl, this.symm⟩
    · cases h
theorem run_sliceBound {k : IntKind} {i : Int} {y : Nat} {code : BoundsCode} (h0 : 0 ≤ i) (h1 : i ≤ y) : (Instr.sliceBound (.int k i) y code).run P w = .ok i.toNat w := by
  simp [Instr.sliceBound, asIntOf, h0, h1]
theorem run_bounds (H : FrOk ρ fr a) {s : Bool} {len cap : Nat} {lo hi mx : Option Operand} {xl xh xm : Option Arg} {l h m : Int} (hl : optOf lo = some xl) (hh : optOf hi = some xh) (hm : optOf mx = some xm)
    (hfit : optFit xh xm = true) (vl : optv fr 0 xl = some l) (vh : optv fr len xh = some h) (vm : optv fr cap xm = some m) (h0 : 0 ≤ l) (h1 : l ≤ h) (h2 : h ≤ m) (h3 : m ≤ cap) :
    (Instr.sliceBounds s len cap (lo.map a.eval) (hi.map a.eval) (mx.map a.eval)).run P w = .ok (l.toNat, h.toNat, m.toNat) w := by
  have em : (0 : Int) ≤ m := by omega
  have eh : (0 : Int) ≤ h := by omega
  have hmn : h ≤ (m.toNat : Int) := by omega
  have lhn : l ≤ (h.toNat : Int) := by omega
  rcases optv_ok H hl vl with ⟨rfl, rfl, rfl⟩ | ⟨yl, kl, rfl, _, el⟩ <;> rcases optv_ok H hh vh with ⟨rfl, rfl, rfl⟩ | ⟨yh, kh, rfl, ih, ehh⟩ <;>
    rcases optv_ok H hm vm with ⟨rfl, rfl, rfl⟩ | ⟨ym, km, rfl, im, emm⟩
  case inl.inl.inr | inr.inl.inr => cases xm <;> simp [optFit] at hfit im
  all_goals simp_all [Instr.sliceBounds, run_sliceBound]

theorem step_slice (ht : tbOk P tb = true) (H : FrOk ρ fr a) {x : Oper} {d : Nat} {t e : TypeId} {y : Operand} {lo hi mx : Option Operand} {z : Arg} {xl xh xm : Option Arg} {i j : TI}
    (hd : x.dst = some d) (ho : x.op = .slice t y lo hi mx) (hi' : tget tb t = some i) (hk : i.kind = .slice e) (hj : tget tb e = some j) (hz : argOf y = some z)
    (hl : optOf lo = some xl) (hh : optOf hi = some xh) (hm : optOf mx = some xm) : StepOk P x a w ρ fr ch nx (step fr ch nx (.slice d j.size z xl xh xm)) := by
  obtain ⟨dd, hdd, _, hkk⟩ := (tget_is ht hi').und
  rw [hk] at hkk
  obtain rfl := kind_slice hkk
  obtain ⟨ji, hji, hjs, _⟩ := (tget_is ht hj).info
  simp only [step]
  split
  · rename_i c off len cap hv
    cases hf : optFit xh xm
    · trivial
    · simp only [Bool.not_true, cond_false]
      split
      · rename_i l h m vl vh vm
        have he := argOf_ok H hz hv
        simp only [AV.ev, Option.map_eq_some_iff] at he
        obtain ⟨b, hb, he⟩ := he
        refine okq hd fun hq => ?_
        obtain ⟨h0, h1, h2, h3⟩ := hq _ rfl
        refine ⟨.slice (some ⟨b, slOff off l.toNat m.toNat j.size, none⟩) (h.toNat - l.toNat) (m.toNat - l.toNat), by simp [AV.ev, hb], ?_⟩
        have hb2 := run_bounds (P := P) (w := w) (s := true) H hl hh hm hf vl vh vm h0 h1 h2 h3
        simp only [execOp, ho, ← he, Instr.sliceAt, Instr.slice, Sem.run_bind, run_underlying hdd, Result.andThen_ok, hb2, run_sizeOf hji, hjs, Sem.run_pure, slOff]
        by_cases hml : m.toNat = l.toNat
        · simp [hml]
        · simp [hml, addr_add]
      · trivial
  · rename_i ad len cap hv
    cases hf : optFit xh xm
    · trivial
    · simp only [Bool.not_true, cond_false]
      split
      · rename_i l h m vl vh vm
        have he := argOf_ok H hz hv
        simp only [AV.ev, Option.some.injEq] at he
        refine okq hd fun hq => ?_
        obtain ⟨h0, h1, h2, h3⟩ := hq _ rfl
        refine ⟨_, rfl, ?_⟩
        have hb2 := run_bounds (P := P) (w := w) (s := true) H hl hh hm hf vl vh vm h0 h1 h2 h3
        simp only [execOp, ho, ← he, Instr.sliceAt, Instr.slice, Sem.run_bind, run_underlying hdd, Result.andThen_ok, hb2, run_sizeOf hji, hjs, Sem.run_pure]
      · trivial
  · trivial
theorem step_slicea (ht : tbOk P tb = true) (H : FrOk ρ fr a) {x : Oper} {d n : Nat} {t e : TypeId} {y : Operand} {lo hi mx : Option Operand} {z : Arg} {xl xh xm : Option Arg} {i j : TI}
    (hd : x.dst = some d) (ho : x.op = .slice t y lo hi mx) (hi' : tget tb t = some i) (hk : i.kind = .arr n e) (hj : tget tb e = some j) (hz : argOf y = some z)
    (hl : optOf lo = some xl) (hh : optOf hi = some xh) (hm : optOf mx = some xm) : StepOk P x a w ρ fr ch nx (step fr ch nx (.slicea d n j.size z xl xh xm)) := by
  obtain ⟨dd, hdd, _, hkk⟩ := (tget_is ht hi').und
  rw [hk] at hkk
  obtain rfl := kind_arr hkk
  obtain ⟨ji, hji, hjs, _⟩ := (tget_is ht hj).info
  simp only [step]
  split
  · rename_i c off hv
    cases hf : optFit xh xm
    · trivial
    · simp only [Bool.not_true, cond_false]
      split
      · rename_i l h m vl vh vm
        have he := argOf_ok H hz hv
        simp only [AV.ev, Option.map_eq_some_iff] at he
        obtain ⟨b, hb, he⟩ := he
        refine okq hd fun hq => ?_
        obtain ⟨h0, h1, h2, h3⟩ := hq _ rfl
        refine ⟨.slice (some ⟨b, slOff off l.toNat m.toNat j.size, none⟩) (h.toNat - l.toNat) (m.toNat - l.toNat), by simp [AV.ev, hb], ?_⟩
        have hb2 := run_bounds (P := P) (w := w) (s := false) H hl hh hm hf vl vh vm h0 h1 h2 h3
        simp only [execOp, ho, ← he, Instr.sliceAt, Instr.sureAddr, Sem.run_bind, run_underlying hdd, Result.andThen_ok, hb2, run_sizeOf hji, hjs, Sem.run_pure, slOff]
        by_cases hml : m.toNat = l.toNat
        · simp [hml]
        · simp [hml, addr_add]
      · trivial
  · trivial

theorem ev_ok {x : Oper} {d : Option Nat} {o : Op} {T : TypeId} : StepOk P x a w ρ fr ch nx (step fr ch nx (.other d o T)) := trivial

/-- **Every operation.** -/
theorem step_ok (ht : tbOk P tb = true) (H : FrOk ρ fr a) (hn : ρ.length = nx) (hs : Each ρ ch nx w) {x : Oper} {o : AOp} (h : opWith tb x.dst x.type x.op = some o) :
    StepOk P x a w ρ fr ch nx (step fr ch nx o) := by
  obtain ⟨dst, op, type, pos, after, guard⟩ := x
  simp only at h
  unfold opWith at h
  split at h
  all_goals try simp only [Option.map_eq_some_iff, Option.bind_eq_some_iff] at h
  · obtain ⟨z, hz, rfl⟩ := h; exact step_mov H rfl (.inl rfl) hz
  · obtain ⟨z, hz, rfl⟩ := h; exact step_mov H rfl (.inr rfl) hz
  · obtain ⟨z1, h1, z2, h2, rfl⟩ := h; exact step_pick H rfl rfl h1 h2
  · obtain ⟨i, hi, rfl⟩ := h; exact step_alloc ht hn rfl rfl hi
  · obtain ⟨z, hz, rfl⟩ := h; exact step_box H hn rfl rfl hz
  · obtain ⟨i, hi, pl, hpl, l, hl, rfl⟩ := h; exact step_build ht H rfl rfl hi hpl hl
  · obtain ⟨i, hi, h⟩ := h
    split at h
    · rename_i e hk
      simp only [Option.bind_eq_some_iff] at h
      obtain ⟨j, hj, h⟩ := h
      rcases cond_some h with ⟨h1, h2⟩ | ⟨_, h2⟩
      · simp only [Option.map_eq_some_iff] at h2
        obtain ⟨l, hl, rfl⟩ := h2
        simp only [Bool.and_eq_true] at h1
        exact step_bslice ht H hn rfl rfl hi hk hj (Nat.le_of_ble_eq_true h1.1) (by have := h1.2; simpa using this) hl
      · cases h2
    · cases h
  · obtain ⟨i, hi, z, hz, rfl⟩ := h; exact step_load ht H hn hs rfl rfl hi hz
  · obtain ⟨i, hi, z, hz, u, hu, rfl⟩ := h; exact step_store ht H hn hs rfl rfl hi hz hu
  · obtain ⟨z, hz, rfl⟩ := h; exact step_nilc H rfl rfl hz
  · obtain ⟨z, hz, u, hu, h⟩ := h
    split at h
    · rename_i neg hneg
      split at h
      · rename_i o' he
        subst h
        simp only [eqOp, Option.bind_eq_some_iff] at he
        obtain ⟨i, hi, he⟩ := he
        split at he
        · rename_i hk; cases he; exact step_eqv ht H rfl rfl hneg hi (.inl ⟨rfl, hk⟩) hz hu
        · rename_i e hk; cases he; exact step_eqv ht H rfl rfl hneg hi (.inr (.inl ⟨rfl, e, hk⟩)) hz hu
        · rename_i hk; cases he; exact step_eqv ht H rfl rfl hneg hi (.inr (.inr (.inl ⟨rfl, hk⟩))) hz hu
        · rename_i hk; cases he; exact step_eqv ht H rfl rfl hneg hi (.inr (.inr (.inr ⟨rfl, hk⟩))) hz hu
        · rename_i hk; cases he; exact step_eqb ht H rfl rfl hneg hi hk hz hu
        · rename_i n e hk
          simp only [Option.bind_eq_some_iff] at he
          obtain ⟨j, hj, he⟩ := he
          split at he
          · rename_i k hkj
            rcases cond_some he with ⟨h1, h2⟩ | ⟨_, h2⟩
            · cases h2; exact step_eqr ht H rfl rfl hneg hi hk hj hkj h1 hz hu
            · cases h2
          · cases he
        · cases he
      · split at h
        · subst h; exact step_bin H rfl rfl hz hu
        · subst h; exact ev_ok
    · subst h; exact step_bin H rfl rfl hz hu
  · obtain ⟨z, hz, rfl⟩ := h; exact step_not H rfl rfl hz
  · obtain ⟨i, hi, h⟩ := h
    split at h
    · rename_i fs hk
      simp only [Option.bind_eq_some_iff] at h
      obtain ⟨p, hp, j, hj, h⟩ := h
      rcases cond_some h with ⟨_, h2⟩ | ⟨h1, h2⟩
      · cases h2
      · simp only [Option.map_eq_some_iff] at h2
        obtain ⟨z, hz, rfl⟩ := h2
        exact step_fld ht H rfl rfl hi hk hp hj h1 hz
    · cases h
  · obtain ⟨i, hi, h⟩ := h
    split at h
    · rename_i fs hk
      simp only [Option.bind_eq_some_iff, Option.map_eq_some_iff] at h
      obtain ⟨p, hp, j, hj, z, hz, rfl⟩ := h
      exact step_fldv ht H rfl rfl hi hk hp hj hz
    · cases h
  · obtain ⟨i, hi, h⟩ := h
    split at h
    · rename_i e hk
      simp only [Option.bind_eq_some_iff, Option.map_eq_some_iff] at h
      obtain ⟨j, hj, z, hz, u, hu, rfl⟩ := h
      exact step_idx ht H rfl rfl hi hk hj hz hu
    · rename_i n e hk
      simp only [Option.bind_eq_some_iff, Option.map_eq_some_iff] at h
      obtain ⟨j, hj, z, hz, u, hu, rfl⟩ := h
      exact step_idxa ht H rfl rfl hi hk hj hz hu
    · cases h
  · obtain ⟨z, hz, rfl⟩ := h; exact step_ext H rfl rfl hz
  · obtain ⟨z, hz, u, hu, rfl⟩ := h; exact step_mkfn H rfl rfl hz hu
  · obtain ⟨z, hz, u, hu, rfl⟩ := h; exact step_call H rfl rfl hz hu
  · obtain ⟨t, h0, i, hi, h⟩ := h
    split at h
    · rename_i e y hk has
      simp only [Option.map_eq_some_iff] at h
      obtain ⟨z, hz, rfl⟩ := h
      exact step_len ht H rfl rfl h0 hi hk has hz
    · cases h; exact ev_ok
  · obtain ⟨i, hi, j, hj, h⟩ := h
    split at h
    · rename_i k' k hk1 hk2
      simp only [Option.map_eq_some_iff] at h
      obtain ⟨z, hz, rfl⟩ := h
      exact step_conv ht H rfl rfl hi hj hk1 hk2 hz
    · cases h; exact ev_ok
  · obtain ⟨i, hi, h⟩ := h
    split at h
    · rename_i e hk
      simp only [Option.bind_eq_some_iff, Option.map_eq_some_iff] at h
      obtain ⟨j, hj, z, hz, xl, hl, xh, hh, xm, hm, rfl⟩ := h
      exact step_slice ht H rfl rfl hi hk hj hz hl hh hm
    · rename_i n e hk
      simp only [Option.bind_eq_some_iff, Option.map_eq_some_iff] at h
      obtain ⟨j, hj, z, hz, xl, hl, xh, hh, xm, hm, rfl⟩ := h
      exact step_slicea ht H rfl rfl hi hk hj hz hl hh hm
    · cases h; exact ev_ok
  · cases h; exact ev_ok
end
end Sx
