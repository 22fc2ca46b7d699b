/- What 'step' reckons is what the model's operation does: the other operations, and all together. -/
import Derived.Test.YtolcobhaghdfcaaSound2
namespace Sx
open Go
section
variable {P : Program} {tb : Tb} {a : Act} {w : World} {ρ : List Nat} {fr : List (Nat × AV)} {ch : List (Nat × Chunk)} {nx : Nat}

theorem step_nilc (H : FrOk ρ fr a) {x : Oper} {d : Nat} {y : Operand} {z : Arg} (hd : x.dst = some d) (ho : x.op = .nilCheck y) (hz : argOf y = some z) :
    StepOk P x a w ρ fr ch nx (step fr ch nx (.nilc d z)) := by
  simp only [step]
  split
  · rename_i c o hv
    have he := argOf_ok H hz hv
    refine ok_of hd he ?_
    simp only [AV.ev, Option.map_eq_some_iff] at he
    obtain ⟨b, hb, he⟩ := he
    simp [execOp, ho, ← he]
  · rename_i c b s i o hv
    have he := argOf_ok H hz hv
    refine ok_of hd he ?_
    simp only [AV.ev, Option.map_eq_some_iff] at he
    obtain ⟨b, hb, he⟩ := he
    simp [execOp, ho, ← he]
  · rename_i q hv
    have he := argOf_ok H hz hv
    refine ok_of hd he ?_
    simp only [AV.ev, Option.some.injEq] at he
    simp [execOp, ho, ← he]
  · trivial

theorem okq {x : Oper} {d : Nat} {v : AV} {q : Option Prop} (hd : x.dst = some d) (h : (∀ p, q = some p → p) → ∃ y, v.ev ρ = some y ∧ (execOp a.eval x).run P w = .ok (.value y) w) :
    StepOk P x a w ρ fr ch nx (.ok d v q) := fun hq => ⟨hd, h hq⟩

theorem eqGuard_int (op : BinOp) (t : TypeId) (x y : Operand) (k : IntKind) (n : Int) (v : Value) : eqGuard op t x y (.int k n) v = pure () := by cases op <;> rfl

def intBin (op : BinOp) (k : IntKind) (p q : Int) : Sem Value :=
  match op with
  | .add | .sub | .mul => Op.intArith op k p q
  | .quo | .rem => Op.intDiv op k p q
  | .and | .or | .xor | .andNot => Op.intBits op k p q
  | _ => Op.intCmp op p q
theorem intOp_ok {x : Oper} {d : Nat} {op : BinOp} {k : IntKind} {p q : Int} (hd : x.dst = some d) (hr : (execOp a.eval x).run P w = ((do let v ← intBin op k p q; pure (.value v) : Sem Next).run P w)) :
    StepOk P x a w ρ fr ch nx (intOp d op k p q) := by
  unfold intOp
  split <;> dsimp only [intBin] at hr
  · split
    · exact okq hd fun h => ⟨_, rfl, by rw [hr]; simp [Op.intArith, wrap_in (h _ rfl)]⟩
    · exact okq hd fun _ => ⟨_, rfl, by rw [hr]; simp [Op.intArith]⟩
  · split
    · exact okq hd fun h => ⟨_, rfl, by rw [hr]; simp [Op.intArith, wrap_in (h _ rfl)]⟩
    · exact okq hd fun _ => ⟨_, rfl, by rw [hr]; simp [Op.intArith]⟩
  · split
    · exact okq hd fun h => ⟨_, rfl, by rw [hr]; simp [Op.intArith, wrap_in (h _ rfl)]⟩
    · exact okq hd fun _ => ⟨_, rfl, by rw [hr]; simp [Op.intArith]⟩
  · split
    · exact okq hd fun h => ⟨_, rfl, by rw [hr]; have h1 := h _ rfl; simp [Op.intDiv, h1.1, wrap_in h1.2]⟩
    · exact okq hd fun h => ⟨_, rfl, by rw [hr]; have h1 := h _ rfl; simp [Op.intDiv, h1]⟩
  · exact okq hd fun h => ⟨_, rfl, by rw [hr]; have h1 := h _ rfl; simp [Op.intDiv, h1]⟩
  · exact okq hd fun _ => ⟨_, rfl, by rw [hr]; simp [intBits_and]⟩
  · exact okq hd fun _ => ⟨_, rfl, by rw [hr]; simp [intBits_or]⟩
  · exact okq hd fun _ => ⟨_, rfl, by rw [hr]; simp [intBits_xor]⟩
  · exact okq hd fun _ => ⟨_, rfl, by rw [hr]; simp [Op.intCmp]; rfl⟩
  · exact okq hd fun _ => ⟨_, rfl, by rw [hr]; simp [Op.intCmp]; rfl⟩
  · exact okq hd fun _ => ⟨_, rfl, by rw [hr]; simp [Op.intCmp]⟩
  · exact okq hd fun _ => ⟨_, rfl, by rw [hr]; simp [Op.intCmp]⟩
  · exact okq hd fun _ => ⟨_, rfl, by rw [hr]; simp [Op.intCmp]⟩
  · exact okq hd fun _ => ⟨_, rfl, by rw [hr]; simp [Op.intCmp]⟩
  · trivial

theorem step_bin (H : FrOk ρ fr a) {x : Oper} {d : Nat} {op : BinOp} {t t' : TypeId} {y u : Operand} {z zu : Arg} (hd : x.dst = some d) (ho : x.op = .binOp op t y u t') (hz : argOf y = some z) (hu : argOf u = some zu) :
    StepOk P x a w ρ fr ch nx (step fr ch nx (.bin d op z zu)) := by
  simp only [step]
  split
  · rename_i k p k' q hv hvu
    have he := argOf_ok H hz hv
    have hue := argOf_ok H hu hvu
    simp only [AV.ev, Option.some.injEq] at he hue
    have hr : (execOp a.eval x).run P w = ((do let v ← binOp op t (.int k p) (.int k' q); pure (.value v) : Sem Next).run P w) := by
      simp [execOp, ho, ← he, ← hue, eqGuard_int]
    cases hsh : isShift op
    · simp only [cond_false]
      cases hk : k == k'
      · trivial
      · have : k = k' := by simpa using hk
        subst this
        refine intOp_ok hd ?_
        rw [hr]
        cases op <;> first | (simp [isShift] at hsh; done) | (simp [binOp, intBin])
    · simp only [cond_true]
      cases op <;> simp [isShift] at hsh
      · simp only [shiftOp]
        split
        · refine okq hd fun h => ⟨_, rfl, ?_⟩
          obtain ⟨h1, h2, h3⟩ := h _ rfl
          rw [hr]
          have hmin : min q.toNat IntKind.i64.bits = q.toNat := by show min q.toNat 64 = q.toNat; omega
          simp only [binOp, Op.shift]
          rw [if_neg (by omega), hmin]
          simp [wrap_in h3]
        · refine okq hd fun h => ⟨_, rfl, ?_⟩
          have h1 := h _ rfl
          rw [hr]
          simp only [binOp, Op.shift]
          rw [if_neg (by omega)]
          simp
      · simp only [shiftOp]
        refine okq hd fun h => ⟨_, rfl, ?_⟩
        have h1 := h _ rfl
        rw [hr]
        simp only [binOp, Op.shift]
        rw [if_neg (by omega)]
        simp
  · trivial

theorem step_not (H : FrOk ρ fr a) {x : Oper} {d : Nat} {t : TypeId} {y : Operand} {z : Arg} (hd : x.dst = some d) (ho : x.op = .unOp .not t y) (hz : argOf y = some z) :
    StepOk P x a w ρ fr ch nx (step fr ch nx (.not d z)) := by
  simp only [step]
  split
  all_goals first | trivial | skip
  all_goals
    rename_i hv
    have he := argOf_ok H hz hv
    simp only [AV.ev, Option.some.injEq] at he
    exact ok_of hd rfl (by simp [execOp, ho, ← he, Op.unary])

theorem field_at {fs : List (Nat × TypeId)} {d : TypeDesc} {f : Nat} {p : Nat × TypeId} (h : kindOk d (.struct fs) = true) (hp : fs[f]? = some p) :
    ∃ fields fd, d = .struct fields ∧ fields[f]? = some fd ∧ fd.offset = p.1 ∧ fd.type = p.2 := by
  obtain ⟨fields, rfl, hfs⟩ := kind_struct h
  rw [← hfs, List.getElem?_map, Option.map_eq_some_iff] at hp
  obtain ⟨fd, h1, rfl⟩ := hp
  exact ⟨fields, fd, rfl, by simpa using h1, rfl, rfl⟩
theorem addr_add (b o n : Nat) : (⟨b, o, none⟩ : Addr).add n = ⟨b, o + n, none⟩ := by unfold Addr.add; split <;> simp_all

theorem step_fld (ht : tbOk P tb = true) (H : FrOk ρ fr a) {x : Oper} {d f : Nat} {t : TypeId} {y : Operand} {z : Arg} {i j : TI} {fs : List (Nat × TypeId)} {p : Nat × TypeId}
    (hd : x.dst = some d) (ho : x.op = .fieldAddr t y f) (hi : tget tb t = some i) (hk : i.kind = .struct fs) (hp : fs[f]? = some p) (hj : tget tb p.2 = some j) (hj0 : Nat.beq j.size 0 = false) (hz : argOf y = some z) :
    StepOk P x a w ρ fr ch nx (step fr ch nx (.fld d p.1 z)) := by
  obtain ⟨dd, hdd, _, hkk⟩ := (tget_is ht hi).und
  rw [hk] at hkk
  obtain ⟨fields, fd, rfl, hf, hoff, hty⟩ := field_at hkk hp
  obtain ⟨ji, hji, hjs, _⟩ := (tget_is ht hj).info
  have hne : ¬ ji.size = 0 := by rw [hjs]; intro h; rw [h] at hj0; cases hj0
  have run : ∀ b o : Nat, a.eval y = .pointer (some ⟨b, o, none⟩) → (execOp a.eval x).run P w = .ok (.value (.pointer (some ⟨b, o + p.1, none⟩))) w := by
    intro b o he
    simp [execOp, ho, he, Instr.fieldAt, run_underlying hdd, hf, Instr.sureAddr, fieldPlace, hty, run_sizeOf hji, hne, hoff, addr_add]
  simp only [step]
  split
  · rename_i c o hv
    have he := argOf_ok H hz hv
    simp only [AV.ev, Option.map_eq_some_iff] at he
    obtain ⟨b, hb, he⟩ := he
    exact ok_of hd (by simp [AV.ev, hb]) (run b o he.symm)
  · rename_i c bs s q o hv
    have he := argOf_ok H hz hv
    simp only [AV.ev, Option.map_eq_some_iff] at he
    obtain ⟨b, hb, he⟩ := he
    exact ok_of hd (by simp [AV.ev, hb]; rfl) (by rw [run b _ he.symm]; simp [Nat.add_assoc])
  · rename_i ad hv
    have he := argOf_ok H hz hv
    simp only [AV.ev, Option.some.injEq] at he
    refine ok_of hd rfl ?_
    simp [execOp, ho, ← he, Instr.fieldAt, run_underlying hdd, hf, Instr.sureAddr, fieldPlace, hty, run_sizeOf hji, hne, hoff]
  · trivial

theorem step_fldv (ht : tbOk P tb = true) (H : FrOk ρ fr a) {x : Oper} {d f : Nat} {t : TypeId} {y : Operand} {z : Arg} {i j : TI} {fs : List (Nat × TypeId)} {p : Nat × TypeId}
    (hd : x.dst = some d) (ho : x.op = .field t y f) (hi : tget tb t = some i) (hk : i.kind = .struct fs) (hp : fs[f]? = some p) (hj : tget tb p.2 = some j) (hz : argOf y = some z) :
    StepOk P x a w ρ fr ch nx (step fr ch nx (.fldv d p.1 j.size j.agg z)) := by
  obtain ⟨dd, hdd, _, hkk⟩ := (tget_is ht hi).und
  rw [hk] at hkk
  obtain ⟨fields, fd, rfl, hf, hoff, hty⟩ := field_at hkk hp
  obtain ⟨⟨ji, hji, hjs, _⟩, dj, hdj, haj, _⟩ := tget_is ht hj
  simp only [step]
  split
  · rename_i cs hv
    have he := argOf_ok H hz hv
    simp only [AV.ev, Option.map_eq_some_iff] at he
    obtain ⟨vs, hvs, he⟩ := he
    cases hag : j.agg
    · simp only [cond_false]
      split
      · rename_i v hone
        obtain ⟨u, hu, hue⟩ := oneN_spec hone hvs
        refine ok_of hd hue ?_
        simp [execOp, ho, ← he, Instr.field, run_underlying hdd, hf, asAgg, part, hty, run_isAgg hdj, haj, hag, hoff, hu]
      · trivial
    · simp only [cond_true]
      split
      · rename_i r hr
        split
        · rename_i l hl
          obtain ⟨h1, h2⟩ := skipN_spec hr hvs
          obtain ⟨h3, h4⟩ := takeN_spec hl h2 (show AV.evc ρ [] = some [] from rfl)
          refine ok_of hd (mkAgg_ev h4) ?_
          simp [execOp, ho, ← he, Instr.field, run_underlying hdd, hf, asAgg, part, hty, run_isAgg hdj, haj, hag, hoff, run_sizeOf hji, hjs, List.extract_eq_take_drop]
        · trivial
      · trivial
  · trivial

theorem step_idx (ht : tbOk P tb = true) (H : FrOk ρ fr a) {x : Oper} {d : Nat} {t e : TypeId} {y u : Operand} {z zu : Arg} {i j : TI}
    (hd : x.dst = some d) (ho : x.op = .indexAddr t y u) (hi : tget tb t = some i) (hk : i.kind = .slice e) (hj : tget tb e = some j) (hz : argOf y = some z) (hu : argOf u = some zu) :
    StepOk P x a w ρ fr ch nx (step fr ch nx (.idx d j.size z zu)) := by
  obtain ⟨dd, hdd, _, hkk⟩ := (tget_is ht hi).und
  rw [hk] at hkk
  obtain rfl := kind_slice hkk
  obtain ⟨ji, hji, hjs, _⟩ := (tget_is ht hj).info
  simp only [step]
  split
  · rename_i c off len cap k q hv hvu
    have he := argOf_ok H hz hv
    have hue := argOf_ok H hu hvu
    simp only [AV.ev, Option.map_eq_some_iff] at he
    simp only [AV.ev, Option.some.injEq] at hue
    obtain ⟨b, hb, he⟩ := he
    refine okq hd fun h => ⟨.pointer (some ⟨b, off + q.toNat * j.size + 0, none⟩), by simp [AV.ev, hb], ?_⟩
    have h1 := h _ rfl
    simp [execOp, ho, ← he, ← hue, Instr.indexAt, asIntOf, run_underlying hdd, h1, run_sizeOf hji, hjs, addr_add]
  · rename_i ad len cap k q hv hvu
    have he := argOf_ok H hz hv
    have hue := argOf_ok H hu hvu
    simp only [AV.ev, Option.some.injEq] at he hue
    refine okq hd fun h => ⟨_, rfl, ?_⟩
    have h1 := h _ rfl
    simp [execOp, ho, ← he, ← hue, Instr.indexAt, asIntOf, run_underlying hdd, h1, run_sizeOf hji, hjs]
  · trivial
theorem step_idxa (ht : tbOk P tb = true) (H : FrOk ρ fr a) {x : Oper} {d n : Nat} {t e : TypeId} {y u : Operand} {z zu : Arg} {i j : TI}
    (hd : x.dst = some d) (ho : x.op = .indexAddr t y u) (hi : tget tb t = some i) (hk : i.kind = .arr n e) (hj : tget tb e = some j) (hz : argOf y = some z) (hu : argOf u = some zu) :
    StepOk P x a w ρ fr ch nx (step fr ch nx (.idxa d n j.size z zu)) := by
  obtain ⟨dd, hdd, _, hkk⟩ := (tget_is ht hi).und
  rw [hk] at hkk
  obtain rfl := kind_arr hkk
  obtain ⟨ji, hji, hjs, _⟩ := (tget_is ht hj).info
  simp only [step]
  split
  · rename_i c off k q hv hvu
    have he := argOf_ok H hz hv
    have hue := argOf_ok H hu hvu
    simp only [AV.ev, Option.map_eq_some_iff] at he
    simp only [AV.ev, Option.some.injEq] at hue
    obtain ⟨b, hb, he⟩ := he
    refine okq hd fun h => ⟨.pointer (some ⟨b, off + q.toNat * j.size + 0, none⟩), by simp [AV.ev, hb], ?_⟩
    have h1 := h _ rfl
    simp [execOp, ho, ← he, ← hue, Instr.indexAt, asIntOf, run_underlying hdd, h1, run_sizeOf hji, hjs, addr_add, Instr.sureAddr]
  · trivial

theorem step_ext (H : FrOk ρ fr a) {x : Oper} {d i : Nat} {y : Operand} {z : Arg} (hd : x.dst = some d) (ho : x.op = .extract y i) (hz : argOf y = some z) :
    StepOk P x a w ρ fr ch nx (step fr ch nx (.ext d i z)) := by
  simp only [step]
  split
  · rename_i vs hv
    have he := argOf_ok H hz hv
    simp only [AV.ev, Option.map_eq_some_iff] at he
    obtain ⟨us, hus, he⟩ := he
    split
    · rename_i v hi
      obtain ⟨u, h1, h2⟩ := evs_get hus hi
      exact ok_of hd h2 (by simp [execOp, ho, ← he, Instr.extract, h1])
    · trivial
  · trivial

theorem step_mkfn (H : FrOk ρ fr a) {x : Oper} {d : Nat} {f : Fn} {fs cs : Array Operand} {zf zc : List Arg} (hd : x.dst = some d) (ho : x.op = .makeFunc f fs cs) (hz : argsOf fs.toList = some zf) (hu : argsOf cs.toList = some zc) :
    StepOk P x a w ρ fr ch nx (step fr ch nx (.mkfn d f zf zc)) := by
  simp only [step]
  split
  · rename_i p q hv hvu
    have h1 := argsOf_ok H hz hv
    have h2 := argsOf_ok H hu hvu
    refine ok_of (y := .func f (fs.map a.eval) (cs.map a.eval)) hd (by simp only [AV.ev, h1, h2, Option.bind_some, Option.map_some]; congr 2 <;> exact Array.ext' (by simp)) (by simp [execOp, ho, Instr.makeFunc])
  · trivial

theorem step_call (H : FrOk ρ fr a) {x : Oper} {d : Nat} {f : Operand} {as : Array Operand} {ts : Array TypeId} {zf : Arg} {za : List Arg} (hd : x.dst = some d) (ho : x.op = .call ⟨.value f, as, ts⟩)
    (hz : argOf f = some zf) (hu : argsOf as.toList = some za) : StepOk P x a w ρ fr ch nx (step fr ch nx (.call d zf za)) := by
  simp only [step]
  split
  · rename_i g first caps l hv hvu
    have he := argOf_ok H hz hv
    have h2 := argsOf_ok H hu hvu
    simp only [AV.ev, Option.bind_eq_some_iff, Option.map_eq_some_iff] at he
    obtain ⟨p, hp, q, hq, he⟩ := he
    refine ⟨hd, p ++ (as.toList.map a.eval) ++ q, evs_append (evs_append hp h2) hq, ?_⟩
    have e : (p ++ as.toList.map a.eval ++ q).toArray = p.toArray ++ as.map a.eval ++ q.toArray := Array.ext' (by simp)
    rw [e]
    simp [execOp, ho, resolve, ← he, Deferred.ofValue, invoke]
  · trivial

theorem step_len (ht : tbOk P tb = true) (H : FrOk ρ fr a) {x : Oper} {d : Nat} {t e : TypeId} {y : Operand} {as : Array Operand} {ts : Array TypeId} {z : Arg} {i : TI}
    (hd : x.dst = some d) (ho : x.op = .call ⟨.builtin .len, as, ts⟩) (h0 : ts[0]? = some t) (hi : tget tb t = some i) (hk : i.kind = .slice e) (has : as.toList = [y]) (hz : argOf y = some z) :
    StepOk P x a w ρ fr ch nx (step fr ch nx (.len d z)) := by
  obtain ⟨dd, hdd, _, hkk⟩ := (tget_is ht hi).und
  rw [hk] at hkk
  obtain rfl := kind_slice hkk
  have has' : as = #[y] := by apply Array.ext'; simpa using has
  have run : ∀ (ad : Option Addr) (n c : Nat), a.eval y = .slice ad n c → (execOp a.eval x).run P w = .ok (.value (.int .i64 n)) w := by
    intro ad n c he
    simp [execOp, ho, resolve, has', he, invoke, builtin, Builtin.len_, h0, run_underlying hdd, goInt]
  simp only [step]
  split
  · rename_i c o n cap hv
    have he := argOf_ok H hz hv
    simp only [AV.ev, Option.map_eq_some_iff] at he
    obtain ⟨b, hb, he⟩ := he
    exact ok_of hd rfl (run _ _ _ he.symm)
  · rename_i o n cap hv
    have he := argOf_ok H hz hv
    simp only [AV.ev, Option.some.injEq] at he
    exact ok_of hd rfl (run _ _ _ he.symm)
  · trivial

theorem step_conv (ht : tbOk P tb = true) (H : FrOk ρ fr a) {x : Oper} {d : Nat} {s t : TypeId} {k k' : IntKind} {y : Operand} {z : Arg} {i j : TI}
    (hd : x.dst = some d) (ho : x.op = .convert s t y) (hi : tget tb s = some i) (hj : tget tb t = some j) (hki : i.kind = .int k') (hk : j.kind = .int k) (hz : argOf y = some z) :
    StepOk P x a w ρ fr ch nx (step fr ch nx (.conv d k z)) := by
  obtain ⟨dd, hdd, _, hkk⟩ := (tget_is ht hi).und
  rw [hki] at hkk
  obtain rfl := kind_int hkk
  obtain ⟨d2, hd2, _, hkk2⟩ := (tget_is ht hj).und
  rw [hk] at hkk2
  obtain rfl := kind_int hkk2
  simp only [step]
  split
  · rename_i k0 n hv
    have he := argOf_ok H hz hv
    simp only [AV.ev, Option.some.injEq] at he
    split
    · exact okq hd fun h => ⟨_, rfl, by simp [execOp, ho, ← he, convert, run_underlying hdd, run_underlying hd2, Conv.intToInt, wrap_in (h _ rfl)]⟩
    · exact okq hd fun h => ⟨_, rfl, by simp [execOp, ho, ← he, convert, run_underlying hdd, run_underlying hd2, Conv.intToInt]⟩
  · trivial
end
end Sx
