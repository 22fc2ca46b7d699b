/- What 'step' reckons is what the model's operation does: comparisons, slices, and all operations together. -/
import Derived.Test.YtolcobhaghdfcaaSound3
import Derived.Laws.StructEq
import Derived.Laws.Cover3
namespace Sx
open Go
section
variable {P : Program} {tb : Tb} {a : Act} {w : World} {ρ : List Nat} {fr : List (Nat × AV)} {ch : List (Nat × Chunk)} {nx : Nat}

theorem loop_eq {e : TypeId} {k : IntKind} {je : TypeInfo} (he : P.underlying e = some (.int k)) (hj : P.info? e = some je) (h1 : je.size = 1) (d : Nat) (xs ys : List Int) :
    ∀ (n s : Nat), xs.length = s + n → ys.length = s + n → (forIn (List.range' s n) (none, PUnit.unit) (fun i (r : Option Bool × PUnit) => (do
        let p ← part e (xs.map (Value.int k)).toArray (i * 1)
        let q ← part e (ys.map (Value.int k)).toArray (i * 1)
        let b ← Op.equalIn (d + 1) e p q
        if (!b) = true then pure (ForInStep.done (some false, PUnit.unit)) else pure (ForInStep.yield (none, PUnit.unit)) : Sem (ForInStep (Option Bool × PUnit))))).run P w =
      .ok (if xs.drop s = ys.drop s then (none, PUnit.unit) else (some false, PUnit.unit)) w
  | 0, s, hx, hy => by
    simp [List.drop_of_length_le (show xs.length ≤ s by omega), List.drop_of_length_le (show ys.length ≤ s by omega)]
  | n + 1, s, hx, hy => by
    have hxs : s < xs.length := by omega
    have hys : s < ys.length := by omega
    rw [List.range'_succ, List.forIn_cons]
    have p1 : (part e (xs.map (Value.int k)).toArray (s * 1)).run P w = .ok (.int k xs[s]) w := by simp [part, run_isAgg he, isAggD, hxs]
    have p2 : (part e (ys.map (Value.int k)).toArray (s * 1)).run P w = .ok (.int k ys[s]) w := by simp [part, run_isAgg he, isAggD, hys]
    simp only [Sem.run_bind, p1, p2, Result.andThen_ok, run_equalIn_int w d e k k _ _ he]
    have ex := List.drop_eq_getElem_cons hxs
    have ey := List.drop_eq_getElem_cons hys
    by_cases hq : xs[s] = ys[s]
    · simp only [hq, beq_self_eq_true, Bool.not_true, Bool.false_eq_true, if_false, Sem.run_pure, Result.andThen_ok]
      rw [loop_eq he hj h1 d xs ys n (s + 1) (by omega) (by omega), ex, ey, hq]
      simp only [List.cons.injEq, true_and]
    · have : (xs[s] == ys[s]) = false := by simpa using hq
      have hne : ¬ xs.drop s = ys.drop s := fun h => by rw [ex, ey] at h; exact hq (List.cons.inj h).1
      simp [this, hne]
theorem run_equalIn_arr (d : Nat) {t e : TypeId} {k : IntKind} {je : TypeInfo} {n : Nat} (ht : P.underlying t = some (.array n e)) (he : P.underlying e = some (.int k)) (hj : P.info? e = some je) (h1 : je.size = 1)
    (xs ys : List Int) (hx : xs.length = n) (hy : ys.length = n) : (Op.equalIn (d + 2) t (.agg (xs.map (Value.int k)).toArray) (.agg (ys.map (Value.int k)).toArray)).run P w = .ok (decide (xs = ys)) w := by
  have hl := loop_eq (w := w) he hj h1 d xs ys n 0 (by omega) (by omega)
  rw [show d + 2 = (d + 1) + 1 from rfl, Op.equalIn]
  simp only [Sem.run_bind, run_underlying ht, Result.andThen_ok, run_sizeOf hj, h1, Std.Legacy.Range.forIn_eq_forIn_range', Std.Legacy.Range.size, Nat.sub_zero, Nat.add_one_sub_one, Nat.div_one]
  simp only [List.drop_zero] at hl
  rw [hl]
  by_cases h : xs = ys <;> simp [h]
theorem run_equal_arr {t e : TypeId} {k : IntKind} {je : TypeInfo} {n : Nat} (ht : P.underlying t = some (.array n e)) (he : P.underlying e = some (.int k)) (hj : P.info? e = some je) (h1 : je.size = 1)
    (xs ys : List Int) (hx : xs.length = n) (hy : ys.length = n) : (Op.equal t (.agg (xs.map (Value.int k)).toArray) (.agg (ys.map (Value.int k)).toArray)).run P w = .ok (decide (xs = ys)) w :=
  run_equalIn_arr 9998 ht he hj h1 xs ys hx hy
theorem eqGuard_arr {t e : TypeId} {k : IntKind} {n : Nat} (ht : P.underlying t = some (.array n e)) (he : P.underlying e = some (.int k)) (op : BinOp) (x y : Operand) (xs ys : Array Value) :
    (eqGuard op t x y (.agg xs) (.agg ys)).run P w = .ok () w := by
  have hg : P.eqGuardType P.depth t = false := by
    have : Op.maxDepth = 10000 := rfl
    show Program.eqGuardType P (2 * (P.types.size + Made.depth) + 2) t = false
    simp [Program.eqGuardType, ht, he]
  cases op <;> simp [eqGuard, hg]

theorem step_eqr (ht : tbOk P tb = true) (H : FrOk ρ fr a) {x : Oper} {d n : Nat} {neg : Bool} {op : BinOp} {t t' e : TypeId} {k : IntKind} {y u : Operand} {z zu : Arg} {i j : TI}
    (hd : x.dst = some d) (ho : x.op = .binOp op t y u t') (hop : isEq op = some neg) (hi : tget tb t = some i) (hk : i.kind = .arr n e) (hj : tget tb e = some j) (hkj : j.kind = .int k) (hj1 : Nat.beq j.size 1 = true)
    (hz : argOf y = some z) (hu : argOf u = some zu) : StepOk P x a w ρ fr ch nx (step fr ch nx (.eqr d neg n k z zu)) := by
  obtain ⟨dd, hdd, _, hkk⟩ := (tget_is ht hi).und
  rw [hk] at hkk
  obtain rfl := kind_arr hkk
  obtain ⟨⟨je, hje, hjs, _⟩, de, hde, _, hke⟩ := tget_is ht hj
  rw [hkj] at hke
  obtain rfl := kind_int hke
  have hs1 : je.size = 1 := by rw [hjs]; exact Nat.eq_of_beq_eq_true hj1
  simp only [step]
  split
  · rename_i k1 n1 l1 k2 n2 l2 hv hvu
    cases hc : (k1 == k && k2 == k && Nat.beq n1 n && Nat.beq n2 n)
    · trivial
    · simp only [Bool.and_eq_true, beq_iff_eq] at hc
      obtain ⟨⟨⟨rfl, rfl⟩, h3⟩, h4⟩ := hc
      have h3 := Nat.eq_of_beq_eq_true h3
      have h4 := Nat.eq_of_beq_eq_true h4
      subst h3; subst h4
      have he := argOf_ok H hz hv
      have hue := argOf_ok H hu hvu
      simp only [AV.ev] at he hue
      split at he
      · rename_i hl1
        split at hue
        · rename_i hl2
          simp only [Option.some.injEq] at he hue
          simp only [cond_true]
          refine ok_of hd rfl ?_
          have hrun := run_equal_arr (w := w) hdd hde hje hs1 l1 l2 hl1 hl2
          have hgd := eqGuard_arr (P := P) (w := w) hdd hde
          cases op <;> simp [isEq] at hop <;> subst hop <;> simp [execOp, ho, ← he, ← hue, hgd, binOp, hrun]
        · cases hue
      · cases he
  · trivial

theorem eqGuard_eqv (op : BinOp) (t : TypeId) (x y : Operand) {v u : Value} (h : (∃ p, v = .pointer p) ∨ (∃ p l c, v = .slice p l c) ∨ (∃ r, v = .map r) ∨ v = .nilFunc ∨ (∃ f p q, v = .func f p q) ∨ (∃ b, v = .bool b)) :
    eqGuard op t x y v u = pure () := by
  rcases h with ⟨p, rfl⟩ | ⟨p, l, c, rfl⟩ | ⟨r, rfl⟩ | rfl | ⟨f, p, q, rfl⟩ | ⟨b, rfl⟩ <;> cases op <;> rfl

/-- what a value that may be compared with nil is -/
theorem isNil_spec {ρ : List Nat} {kc : Nat} {x : AV} {q : Bool} {v : Value} (h : isNil kc x = some q) (hv : x.ev ρ = some v) :
    (kc = 0 ∧ ∃ p, v = .pointer p ∧ q = p.isNone) ∨ (kc = 1 ∧ ∃ p l c, v = .slice p l c ∧ q = p.isNone) ∨ (kc = 2 ∧ ∃ r, v = .map r ∧ q = r.isNone) ∨ (kc = 3 ∧ ((v = .nilFunc ∧ q = true) ∨ (∃ f a b, v = .func f a b ∧ q = false))) := by
  unfold isNil at h
  split at h <;> simp only [Option.some.injEq, reduceCtorEq] at h <;> subst h <;> simp only [AV.ev, Option.map_eq_some_iff, Option.some.injEq, Option.bind_eq_some_iff] at hv
  · obtain ⟨b, _, rfl⟩ := hv; exact .inl ⟨rfl, _, rfl, rfl⟩
  · obtain ⟨b, _, rfl⟩ := hv; exact .inl ⟨rfl, _, rfl, rfl⟩
  · obtain ⟨b, _, rfl⟩ := hv; exact .inr (.inl ⟨rfl, _, _, _, rfl, rfl⟩)
  · obtain ⟨b, _, rfl⟩ := hv; exact .inr (.inr (.inl ⟨rfl, _, rfl, rfl⟩))
  · obtain ⟨b, _, c, _, rfl⟩ := hv; exact .inr (.inr (.inr ⟨rfl, .inr ⟨_, _, _, rfl, rfl⟩⟩))
  · subst hv; exact .inl ⟨rfl, _, rfl, rfl⟩
  · subst hv; exact .inl ⟨rfl, _, rfl, rfl⟩
  · subst hv; exact .inr (.inl ⟨rfl, _, _, _, rfl, rfl⟩)
  · subst hv; exact .inr (.inl ⟨rfl, _, _, _, rfl, rfl⟩)
  · subst hv; exact .inr (.inr (.inl ⟨rfl, _, rfl, rfl⟩))
  · subst hv; exact .inr (.inr (.inl ⟨rfl, _, rfl, rfl⟩))
  · subst hv; exact .inr (.inr (.inr ⟨rfl, .inl ⟨rfl, rfl⟩⟩))
  · subst hv; exact .inr (.inr (.inr ⟨rfl, .inr ⟨_, _, _, rfl, rfl⟩⟩))
theorem isNilConst_spec {ρ : List Nat} {kc : Nat} {x : AV} {v : Value} (h : isNilConst kc x = true) (hv : x.ev ρ = some v) : (kc = 0 ∧ v = .pointer none) ∨ (kc = 1 ∧ v = .slice none 0 0) ∨ (kc = 2 ∧ v = .map none) ∨ (kc = 3 ∧ v = .nilFunc) := by
  unfold isNilConst at h
  split at h
  · simp only [AV.ev, Option.some.injEq] at hv; exact .inl ⟨rfl, hv.symm⟩
  · simp only [AV.ev, Option.some.injEq] at hv; exact .inr (.inl ⟨rfl, hv.symm⟩)
  · simp only [AV.ev, Option.some.injEq] at hv; exact .inr (.inr (.inl ⟨rfl, hv.symm⟩))
  · simp only [AV.ev, Option.some.injEq] at hv; exact .inr (.inr (.inr ⟨rfl, hv.symm⟩))
  · cases h

theorem run_eqIn_ptr (d : Nat) {t e : TypeId} (p : Option Addr) (h : P.underlying t = some (.pointer e)) : (Op.equalIn (d + 1) t (.pointer p) (.pointer none)).run P w = .ok p.isNone w := by
  rw [Op.equalIn]
  simp only [Sem.run_bind, run_underlying h, Result.andThen_ok]
  cases p <;> simp
theorem run_eqIn_fn (d : Nat) {t : TypeId} {p r : Array TypeId} {v : Bool} (h : P.underlying t = some (.func p r v)) : (Op.equalIn (d + 1) t .nilFunc .nilFunc).run P w = .ok true w := by
  rw [Op.equalIn]
  simp only [Sem.run_bind, run_underlying h, Result.andThen_ok]
  simp
theorem run_eqIn_fn' (d : Nat) {t : TypeId} {p r : Array TypeId} {v : Bool} (h : P.underlying t = some (.func p r v)) (f : Fn) (x y : Array Value) : (Op.equalIn (d + 1) t (.func f x y) .nilFunc).run P w = .ok false w := by
  rw [Op.equalIn]
  simp only [Sem.run_bind, run_underlying h, Result.andThen_ok]
  simp
theorem step_eqv (ht : tbOk P tb = true) (H : FrOk ρ fr a) {x : Oper} {d kc : Nat} {neg : Bool} {op : BinOp} {t t' : TypeId} {y u : Operand} {z zu : Arg} {i : TI}
    (hd : x.dst = some d) (ho : x.op = .binOp op t y u t') (hop : isEq op = some neg) (hi : tget tb t = some i)
    (hk : (kc = 0 ∧ i.kind = .ptr) ∨ (kc = 1 ∧ ∃ e, i.kind = .slice e) ∨ (kc = 2 ∧ i.kind = .map) ∨ (kc = 3 ∧ i.kind = .fn))
    (hz : argOf y = some z) (hu : argOf u = some zu) : StepOk P x a w ρ fr ch nx (step fr ch nx (.eqv d neg kc z zu)) := by
  obtain ⟨dd, hdd, _, hkk⟩ := (tget_is ht hi).und
  simp only [step]
  split
  · rename_i v vu hv hvu
    cases hc : isNilConst kc vu
    · trivial
    · simp only [cond_true]
      split
      · rename_i q hq
        have he := argOf_ok H hz hv
        have hue := argOf_ok H hu hvu
        have h1 := isNil_spec hq he
        have h2 := isNilConst_spec hc hue
        have key : ∀ {r : Bool}, (Op.equal t (a.eval y) (a.eval u)).run P w = .ok r w → eqGuard op t y u (a.eval y) (a.eval u) = pure () → (∀ k n, a.eval y ≠ .int k n) →
            (∀ s, a.eval y ≠ .string s) → (op = .eql → binOp .eql t (a.eval y) (a.eval u) = do pure (.bool (← Op.equal t (a.eval y) (a.eval u)))) → (op = .neq → binOp .neq t (a.eval y) (a.eval u) = do pure (.bool (!(← Op.equal t (a.eval y) (a.eval u))))) →
            (execOp a.eval x).run P w = .ok (.value (.bool (xor neg r))) w := by
          intro r hr hg _ _ he1 he2
          cases op <;> simp [isEq] at hop <;> subst hop
          · simp [execOp, ho, hg, he1 rfl, hr]
          · simp [execOp, ho, hg, he2 rfl, hr]
        have fin : (bAV (xor neg q)).ev ρ = some (.bool (xor neg q)) := by cases (xor neg q) <;> rfl
        refine ok_of hd fin ?_
        rcases h1 with ⟨rfl, p, e1, e2⟩ | ⟨rfl, p, l, c, e1, e2⟩ | ⟨rfl, p, e1, e2⟩ | ⟨rfl, h1⟩
        · simp at hk h2
          rw [hk] at hkk
          cases dd <;> simp [kindOk] at hkk
          rename_i e
          refine key ?_ ?_ ?_ ?_ ?_ ?_
          · rw [e1, h2, e2]; exact run_eqIn_ptr 9999 p hdd
          · rw [e1]; exact eqGuard_eqv _ _ _ _ (.inl ⟨_, rfl⟩)
          · intro k n h; rw [e1] at h; cases h
          · intro s h; rw [e1] at h; cases h
          · intro _; rw [e1, h2]; rfl
          · intro _; rw [e1, h2]; rfl
        · simp at hk h2
          obtain ⟨e, hk⟩ := hk
          rw [hk] at hkk
          obtain rfl := kind_slice hkk
          refine key ?_ ?_ ?_ ?_ ?_ ?_
          · rw [e1, h2, e2]; exact run_equal_slice_nil w t e p l c hdd
          · rw [e1]; exact eqGuard_eqv _ _ _ _ (.inr (.inl ⟨_, _, _, rfl⟩))
          · intro k n h; rw [e1] at h; cases h
          · intro s h; rw [e1] at h; cases h
          · intro _; rw [e1, h2]; rfl
          · intro _; rw [e1, h2]; rfl
        · simp at hk h2
          rw [hk] at hkk
          cases dd <;> simp [kindOk] at hkk
          rename_i ke ee _
          refine key ?_ ?_ ?_ ?_ ?_ ?_
          · rw [e1, h2, e2]; exact run_equal_map_nil w t ke ee p hdd
          · rw [e1]; exact eqGuard_eqv _ _ _ _ (.inr (.inr (.inl ⟨_, rfl⟩)))
          · intro k n h; rw [e1] at h; cases h
          · intro s h; rw [e1] at h; cases h
          · intro _; rw [e1, h2]; rfl
          · intro _; rw [e1, h2]; rfl
        · simp at hk h2
          rw [hk] at hkk
          cases dd <;> simp [kindOk] at hkk
          rcases h1 with ⟨e1, e2⟩ | ⟨f, p1, p2, e1, e2⟩
          · refine key ?_ ?_ ?_ ?_ ?_ ?_
            · rw [e1, h2, e2]; exact run_eqIn_fn 9999 hdd
            · rw [e1]; exact eqGuard_eqv _ _ _ _ (.inr (.inr (.inr (.inl rfl))))
            · intro k n h; rw [e1] at h; cases h
            · intro s h; rw [e1] at h; cases h
            · intro _; rw [e1, h2]; rfl
            · intro _; rw [e1, h2]; rfl
          · refine key ?_ ?_ ?_ ?_ ?_ ?_
            · rw [e1, h2, e2]; exact run_eqIn_fn' 9999 hdd f p1 p2
            · rw [e1]; exact eqGuard_eqv _ _ _ _ (.inr (.inr (.inr (.inr (.inl ⟨_, _, _, rfl⟩)))))
            · intro k n h; rw [e1] at h; cases h
            · intro s h; rw [e1] at h; cases h
            · intro _; rw [e1, h2]; rfl
            · intro _; rw [e1, h2]; rfl
      · trivial
  · trivial

theorem boolV_spec {ρ : List Nat} {x : AV} {q : Bool} (h : boolV x = some q) : x.ev ρ = some (.bool q) := by
  unfold boolV at h
  split at h <;> simp only [Option.some.injEq, reduceCtorEq] at h <;> subst h <;> rfl
theorem step_eqb (ht : tbOk P tb = true) (H : FrOk ρ fr a) {x : Oper} {d : Nat} {neg : Bool} {op : BinOp} {t t' : TypeId} {y u : Operand} {z zu : Arg} {i : TI}
    (hd : x.dst = some d) (ho : x.op = .binOp op t y u t') (hop : isEq op = some neg) (hi : tget tb t = some i) (hk : i.kind = .bool)
    (hz : argOf y = some z) (hu : argOf u = some zu) : StepOk P x a w ρ fr ch nx (step fr ch nx (.eqb d neg z zu)) := by
  obtain ⟨dd, hdd, _, hkk⟩ := (tget_is ht hi).und
  rw [hk] at hkk
  have hdb : dd = .bool := by cases dd <;> simp [kindOk] at hkk; rfl
  subst hdb
  simp only [step]
  split
  · rename_i v vu hv hvu
    split
    · rename_i p q hp hq
      have he := argOf_ok H hz hv
      have hue := argOf_ok H hu hvu
      rw [boolV_spec hp, Option.some.injEq] at he
      rw [boolV_spec hq, Option.some.injEq] at hue
      refine ok_of hd rfl ?_
      cases op <;> simp [isEq] at hop <;> subst hop <;> simp [execOp, ho, ← he, ← hue, eqGuard_eqv, binOp, run_equal_bool w t p q hdd]
    · trivial
  · trivial
end
end Sx
