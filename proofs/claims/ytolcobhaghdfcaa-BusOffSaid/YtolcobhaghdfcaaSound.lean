/- What 'step' reckons is what the model's operation does. -/
import Derived.Test.YtolcobhaghdfcaaStep
namespace Sx
open Go

theorem Sat.big {ρ : List Nat} {g : Nat → Chunk} {n c : Nat} {w : World} (H : Sat (big ρ g n) w) (hc : c < n) : ∃ h, Hp.le h (Hp.of w) ∧ (g c).hp ρ c h := by
  obtain ⟨h, l, hb⟩ := H
  obtain ⟨a, _, _, la, _, ha, _⟩ := big_out hc hb
  exact ⟨a, la.trans l, ha⟩
theorem lt_of_get {ρ : List Nat} {c b : Nat} (h : ρ[c]? = some b) : c < ρ.length := (List.getElem?_eq_some_iff.1 h).1
/-- each named block is there (whether or not apart from the others) -/
def Each (ρ : List Nat) (ch : List (Nat × Chunk)) (nx : Nat) (w : World) : Prop := ∀ c, c < nx → ∃ h, Hp.le h (Hp.of w) ∧ (lookc ch c).hp ρ c h
theorem Sat.each {ρ : List Nat} {ch : List (Nat × Chunk)} {nx : Nat} {w : World} (H : Sat (Sx.big ρ (lookc ch) nx) w) : Each ρ ch nx w := fun _ hc => H.big hc
theorem Each.cells {ρ : List Nat} {ch : List (Nat × Chunk)} {nx c b : Nat} {w : World} (H : Each ρ ch nx w) (hn : ρ.length = nx) (hb : ρ[c]? = some b) {cs : List AV} {T : TypeId}
    (hc : lookc ch c = .cells cs T) : ∃ vs, AV.evc ρ cs = some vs ∧ w.heap[b]? = some (.cells vs.toArray T) := by
  obtain ⟨h, l, hh⟩ := H c (hn ▸ lt_of_get hb)
  rw [hc] at hh
  obtain ⟨b', vs, h1, h2, h3⟩ := hh
  rw [hb] at h1; cases h1
  exact ⟨vs, h2, l _ _ h3⟩

/-- what a step's answer says of the model's operation -/
def StepOk (P : Program) (x : Oper) (a : Act) (w : World) (ρ : List Nat) (fr : List (Nat × AV)) (ch : List (Nat × Chunk)) (nx : Nat) : R → Prop
  | .ok d v q => (∀ p, q = some p → p) → x.dst = some d ∧ ∃ y, v.ev ρ = some y ∧ (execOp a.eval x).run P w = .ok (.value y) w
  | .new d v c => x.dst = some d ∧ ∃ o y, (execOp a.eval x).run P w = .ok (.value y) { w with heap := w.heap.push o } ∧ v.ev (ρ ++ [w.heap.size]) = some y ∧
      ∀ h : Hp, h w.heap.size = some o → c.hp (ρ ++ [w.heap.size]) nx h
  | .st c x' q => (∀ p, q = some p → p) → x.dst = none ∧ c < nx ∧ ∃ b o', (∀ h : Hp, (lookc ch c).hp ρ c h → ∃ o, h b = some o) ∧ (execOp a.eval x).run P w = .ok .skip (putBlock w b o') ∧
      ∀ h : Hp, h b = some o' → x'.hp ρ c h
  | .br s b => look fr s = some (.v (.bool b))
  | .call d f args => x.dst = some d ∧ ∃ vs, AV.evs ρ args = some vs ∧ (execOp a.eval x).run P w = (callFunc f vs.toArray).run P w
  | .ev => True

theorem foldset (off : Nat) : ∀ (us : List Value) (k : Nat) (vs : List Value), off + k + us.length ≤ vs.length →
    (us.zipIdx k).foldl (fun (cs : Array Value) (x : Value × Nat) => cs.setIfInBounds (off + x.2) x.1) vs.toArray = (vs.take (off + k) ++ us ++ vs.drop (off + k + us.length)).toArray
  | [], k, vs, _ => by simp
  | u :: r, k, vs, h => by
    simp only [List.zipIdx_cons, List.foldl_cons, List.setIfInBounds_toArray]
    rw [foldset off r (k + 1) (vs.set (off + k) u) (by simp at h ⊢; omega)]
    have := list_seg_step vs (off + k) u r (by simp at h; omega)
    congr 1

section
variable {P : Program} {tb : Tb} {a : Act} {w : World} {ρ : List Nat} {fr : List (Nat × AV)} {ch : List (Nat × Chunk)} {nx : Nat}

theorem fieldPlaces_ok (ht : tbOk P tb = true) : ∀ {fs : List Field} {l : List (Nat × Nat)}, fieldPlaces tb (fs.map fun f => (f.offset, f.type)) = some l →
    ∀ (w : World), (fs.mapM fun f => do pure (f.offset, ← Go.sizeOf f.type) : Sem _).run P w = .ok l w
  | [], l, h, w => by simp [fieldPlaces] at h; subst h; simp
  | f :: r, l, h, w => by
    simp only [List.map_cons, fieldPlaces, Option.bind_eq_some_iff, Option.map_eq_some_iff] at h
    obtain ⟨i, hi, t, htl, rfl⟩ := h
    obtain ⟨j, hj, hs, _⟩ := (tget_is ht hi).info
    have ih := fieldPlaces_ok ht htl w
    simp only [List.mapM_cons, Sem.run_bind, run_sizeOf hj, Result.andThen_ok, Sem.run_pure, ih, hs]

/-- the model's 'fill' by the short form's -/
theorem fill_ok (H : FrOk ρ fr a) {place : Nat → Option (Nat × Nat)} : ∀ {ps : List (Nat × Operand)} {l : List (Nat × Nat × Arg)} {cs cs' : List AV} {vs : List Value},
    partsOf place ps = some l → fillA fr l cs = some cs' → AV.evc ρ cs = some vs → ∃ vs', AV.evc ρ cs' = some vs' ∧ Instr.fill place vs.toArray (ps.map fun p => (p.1, a.eval p.2)) = some vs'.toArray
  | [], l, cs, cs', vs, hp, hf, hv => by
    simp only [partsOf, Option.some.injEq] at hp; subst hp
    simp only [fillA, Option.some.injEq] at hf; subst hf
    exact ⟨vs, hv, rfl⟩
  | (i, x) :: r, l, cs, cs', vs, hp, hf, hv => by
    simp only [partsOf, Option.bind_eq_some_iff, Option.map_eq_some_iff] at hp
    obtain ⟨⟨off, n⟩, hpl, y, hy, t, htl, rfl⟩ := hp
    simp only [fillA] at hf
    split at hf
    · rename_i v hv'
      split at hf
      · rename_i lc hlc
        rcases cond_some hf with ⟨h1, h2⟩ | ⟨_, h2⟩
        · split at h2
          · rename_i cs1 hcs1
            have hn : asum lc = n := by simpa using h1
            have he := argOf_ok H hy hv'
            have hce := cellsOf_spec hlc he
            obtain ⟨hle, hput⟩ := putN_spec hcs1 hv (show AV.evc ρ [] = some [] from rfl) hce
            have hlen : (a.eval x).cells.toList.length = n := by rw [asum_length hce, hn]
            obtain ⟨vs', h3, h4⟩ := fill_ok H htl h2 hput
            refine ⟨vs', h3, ?_⟩
            simp only [List.map_cons, Instr.fill, hpl]
            have hsz : (a.eval x).cells.size = n := by simpa using hlen
            rw [if_neg (by simp [hsz]; omega)]
            have hfold : (a.eval x).cells.zipIdx.foldl (fun cs (c, j) => cs.setIfInBounds (off + j) c) vs.toArray = (vs.take off ++ (a.eval x).cells.toList ++ vs.drop (off + n)).toArray := by
              have h5 := foldset off (a.eval x).cells.toList 0 vs (by rw [hlen]; omega)
              rw [hlen] at h5
              rw [← Array.foldl_toList, Array.toList_zipIdx]
              simpa using h5
            rw [hfold]
            simpa using h4
          · split at h2
            · rename_i k q
              split at h2
              · rename_i cs1 hcs1
                have hn : asum lc = n := by simpa using h1
                have he := argOf_ok H hy hv'
                have hce := cellsOf_spec hlc he
                have hlen : (a.eval x).cells.toList.length = n := by rw [asum_length hce, hn]
                simp only [AV.ev, Option.some.injEq] at he
                have hn1 : n = 1 := by rw [← hlen, ← he]; rfl
                subst hn1
                obtain ⟨hle, hput⟩ := setN_spec hcs1 hv (show AV.evc ρ [] = some [] from rfl)
                obtain ⟨vs', h3, h4⟩ := fill_ok H htl h2 hput
                refine ⟨vs', h3, ?_⟩
                simp only [List.map_cons, Instr.fill, hpl, ← he]
                rw [if_neg (by simp [Value.cells]; omega)]
                have hfold : (Value.int k q).cells.zipIdx.foldl (fun cs (c, j) => cs.setIfInBounds (off + j) c) vs.toArray = (vs.set off (.int k q)).toArray := by
                  rw [← Array.foldl_toList]
                  simp [Value.cells, Array.zipIdx]
                rw [hfold]
                simpa using h4
              · cases h2
            · cases h2
        · cases h2
      · cases hf
    · cases hf

theorem ok_of {x : Oper} {d : Nat} {v : AV} {y : Value} (hd : x.dst = some d) (hv : v.ev ρ = some y) (hr : (execOp a.eval x).run P w = .ok (.value y) w) {q : Option Prop} :
    StepOk P x a w ρ fr ch nx (.ok d v q) := fun _ => ⟨hd, y, hv, hr⟩

theorem step_mov (H : FrOk ρ fr a) {x : Oper} {d : Nat} {y : Operand} {z : Arg} (hd : x.dst = some d) (ho : x.op = .move y ∨ x.op = .assign y) (hz : argOf y = some z) :
    StepOk P x a w ρ fr ch nx (step fr ch nx (.mov d z)) := by
  simp only [step]
  split
  · rename_i v hv
    refine ok_of hd (argOf_ok H hz hv) ?_
    rcases ho with ho | ho <;> simp [execOp, ho]
  · trivial
theorem step_pick (H : FrOk ρ fr a) {x : Oper} {d c : Nat} {y1 y2 : Operand} {z1 z2 : Arg} (hd : x.dst = some d) (ho : x.op = .pick (.tmp c) y1 y2) (h1 : argOf y1 = some z1) (h2 : argOf y2 = some z2) :
    StepOk P x a w ρ fr ch nx (step fr ch nx (.pick d c z1 z2)) := by
  simp only [step]
  split
  · rename_i hc
    split
    · rename_i v hv
      refine ok_of hd (argOf_ok H h1 hv) ?_
      have := argOf_ok H (o := .tmp c) rfl hc
      simp only [AV.ev, Option.some.injEq] at this
      simp [execOp, ho, asBool, ← this]
    · trivial
  · rename_i hc
    split
    · rename_i v hv
      refine ok_of hd (argOf_ok H h2 hv) ?_
      have := argOf_ok H (o := .tmp c) rfl hc
      simp only [AV.ev, Option.some.injEq] at this
      simp [execOp, ho, asBool, ← this]
    · trivial
  · rename_i q hq
    exact hq
  · trivial
theorem new_of {x : Oper} {d : Nat} {v : AV} {c : Chunk} {o : Obj} {y : Value} (hd : x.dst = some d) (hr : (execOp a.eval x).run P w = .ok (.value y) { w with heap := w.heap.push o })
    (hv : v.ev (ρ ++ [w.heap.size]) = some y) (hc : ∀ h : Hp, h w.heap.size = some o → c.hp (ρ ++ [w.heap.size]) nx h) : StepOk P x a w ρ fr ch nx (.new d v c) := ⟨hd, o, y, hr, hv, hc⟩
theorem last_name (hn : ρ.length = nx) : (ρ ++ [w.heap.size])[nx]? = some w.heap.size := by rw [← hn]; simp
theorem step_box (H : FrOk ρ fr a) (hn : ρ.length = nx) {x : Oper} {d T : Nat} {y : Operand} {z : Arg} (hd : x.dst = some d) (ho : x.op = .box T y) (hz : argOf y = some z) :
    StepOk P x a w ρ fr ch nx (step fr ch nx (.box d T z)) := by
  simp only [step]
  split
  · rename_i v hv
    split
    · rename_i l hl
      have he := argOf_ok H hz hv
      refine new_of (o := .cells (a.eval y).cells T) (y := .pointer (some ⟨w.heap.size, 0, none⟩)) hd ?_ ?_ ?_
      · simp [execOp, ho, Instr.box, newVar, newRow, newObj, Sem.run]
      · simp [AV.ev, last_name hn]
      · intro h hh
        exact ⟨w.heap.size, _, last_name hn, AV.evc_ext _ _ _ _ (cellsOf_spec hl he), by simpa using hh⟩
    · trivial
  · trivial
theorem step_alloc (ht : tbOk P tb = true) (hn : ρ.length = nx) {x : Oper} {d T : Nat} {i : TI} (hd : x.dst = some d) (ho : x.op = .alloc T) (hi : tget tb T = some i) :
    StepOk P x a w ρ fr ch nx (step fr ch nx (.alloc d T i.zero)) := by
  simp only [step]
  obtain ⟨j, hj, _, _, z, hz, hzz, _⟩ := (tget_is ht hi).info
  refine new_of (o := .cells z.cells T) (y := .pointer (some ⟨w.heap.size, 0, none⟩)) hd ?_ ?_ ?_
  · simp [execOp, ho, Instr.alloc, run_zeroValue hj hz, newVar, newRow, newObj, Sem.run]
  · simp [AV.ev, last_name hn]
  · intro h hh
    exact ⟨w.heap.size, _, last_name hn, by simpa using AV.evc_ext [] _ _ _ hzz, by simpa using hh⟩

theorem kind_struct {d : TypeDesc} {fs : List (Nat × TypeId)} (h : kindOk d (.struct fs) = true) : ∃ fields, d = .struct fields ∧ (fields.toList.map fun f => (f.offset, f.type)) = fs := by
  cases d <;> simp [kindOk] at h
  exact ⟨_, rfl, h⟩
theorem kind_arr {d : TypeDesc} {n : Nat} {e : TypeId} (h : kindOk d (.arr n e) = true) : d = .array n e := by
  cases d <;> simp [kindOk] at h
  rw [h.1, h.2]
theorem kind_slice {d : TypeDesc} {e : TypeId} (h : kindOk d (.slice e) = true) : d = .slice e := by
  cases d <;> simp [kindOk] at h
  rw [h]
theorem kind_int {d : TypeDesc} {k : IntKind} (h : kindOk d (.int k) = true) : d = .int k := by
  cases d <;> simp [kindOk] at h
  rw [h]

theorem step_build (ht : tbOk P tb = true) (H : FrOk ρ fr a) {x : Oper} {d : Nat} {t : TypeId} {ps : Array (Nat × Operand)} {i : TI} {pl : Nat → Option (Nat × Nat)} {l : List (Nat × Nat × Arg)}
    (hd : x.dst = some d) (ho : x.op = .build t ps) (hi : tget tb t = some i) (hpl : placeOf tb i.kind = some pl) (hl : partsOf pl ps.toList = some l) :
    StepOk P x a w ρ fr ch nx (step fr ch nx (.build d i.zero l)) := by
  simp only [step]
  split
  · rename_i cs hcs
    obtain ⟨⟨j, hj, _, _, z, hz, hzz, _⟩, dd, hdd, _, hk⟩ := tget_is ht hi
    obtain ⟨vs', h1, h2⟩ := fill_ok H hl hcs (by simpa using AV.evc_ext [] ρ _ _ hzz)
    refine ok_of hd (mkAgg_ev h1) ?_
    simp only [Array.toArray_toList] at h2
    unfold placeOf at hpl
    split at hpl
    · rename_i fs hkk
      rw [hkk] at hk
      obtain ⟨fields, rfl, hfs⟩ := kind_struct hk
      simp only [Option.map_eq_some_iff] at hpl
      obtain ⟨pls, hpls, rfl⟩ := hpl
      rw [← hfs] at hpls
      have hm := fieldPlaces_ok (P := P) ht hpls w
      have hm' : (fields.mapM fun f => do pure (f.offset, ← Go.sizeOf f.type) : Sem _).run P w = .ok pls.toArray w := by
        rw [← Array.toArray_toList (xs := fields)]
        simp only [List.mapM_toArray, Sem.run_map, hm]
        rfl
      simp only [bind_pure_comp] at hm'
      simp [execOp, ho, Instr.build, run_zeroValue hj hz, run_underlying hdd, hm', h2]
    · rename_i n e hkk
      rw [hkk] at hk
      obtain rfl := kind_arr hk
      simp only [Option.map_eq_some_iff] at hpl
      obtain ⟨je, hje, rfl⟩ := hpl
      obtain ⟨j2, hj2, hs2, _⟩ := (tget_is ht hje).info
      simp [execOp, ho, Instr.build, run_zeroValue hj hz, run_underlying hdd, run_sizeOf hj2, hs2, h2]
    · cases hpl
  · trivial

theorem map_range_rep (z : List Value) : ∀ n : Nat, ((List.range (n * z.length)).map fun i => z.toArray[i % z.toArray.size]!) = (List.replicate n z).flatten
  | 0 => by simp
  | n + 1 => by
    rw [Nat.succ_mul, List.range_add, List.map_append, map_range_rep z n, List.replicate_succ']
    simp only [List.flatten_append, List.flatten_cons, List.flatten_nil, List.append_nil, List.append_cancel_left_eq, List.map_map]
    apply List.ext_getElem
    · simp
    · intro i h1 h2
      simp at h1
      simp [Nat.mod_eq_of_lt h1, Nat.add_comm (n * z.length) i, Nat.add_mul_mod_self_right, h1]
theorem repZero_evc {z : List AV} {zv : List Value} (h : AV.evc ρ z = some zv) : ∀ n, AV.evc ρ (repZero n z) = some (List.replicate n zv).flatten
  | 0 => rfl
  | n + 1 => by
    rw [repZero, List.replicate_succ, List.flatten_cons]
    exact AV.evc_append _ _ _ _ h (repZero_evc h n)
theorem step_bslice (ht : tbOk P tb = true) (H : FrOk ρ fr a) (hn : ρ.length = nx) {x : Oper} {d n : Nat} {t e : TypeId} {ps : Array (Nat × Operand)} {i j : TI} {l : List (Nat × Nat × Arg)}
    (hd : x.dst = some d) (ho : x.op = .buildSlice t n ps) (hi : tget tb t = some i) (hk : i.kind = .slice e) (hj : tget tb e = some j) (h1 : n * j.size ≤ 16777216) (h2 : 0 < j.size)
    (hl : partsOf (fun i => some (i * j.size, j.size)) ps.toList = some l) : StepOk P x a w ρ fr ch nx (step fr ch nx (.bslice d e n (repZero n j.zero) l)) := by
  simp only [step]
  split
  · rename_i cs hcs
    obtain ⟨_, dd, hdd, _, hkk⟩ := tget_is ht hi
    rw [hk] at hkk
    obtain rfl := kind_slice hkk
    obtain ⟨je, hje, hsz, _, z, hz, hzz, hzl⟩ := (tget_is ht hj).info
    have hz0 := repZero_evc (ρ := ρ) (by simpa using AV.evc_ext [] ρ _ _ hzz) n
    obtain ⟨vs', h3, h4⟩ := fill_ok H hl hcs hz0
    have hrep := map_range_rep z.cells.toList n
    refine new_of (o := .cells vs'.toArray e) (y := .slice (some ⟨w.heap.size, 0, none⟩) n n) hd ?_ ?_ ?_
    · have hfill : Instr.fill (fun i => some (i * j.size, j.size)) ((Array.range (n * j.size)).map fun i => z.cells[i % z.cells.size]!) (ps.toList.map fun p => (p.1, a.eval p.2)) = some vs'.toArray := by
        rw [← h4]
        congr 1
        rw [← hrep, hzl]
        apply Array.ext'
        simp
      by_cases hn0 : n * j.size = 0
      · have hn0' : n = 0 := by
          rcases Nat.mul_eq_zero.1 hn0 with h | h
          · exact h
          · omega
        subst hn0'
        have e0 : Array.range 0 = #[] := rfl
        simp only [Nat.zero_mul, e0, Array.map_empty] at hfill
        simp [e0, execOp, ho, Instr.buildSlice, run_underlying hdd, run_sizeOf hje, hsz, hfill, newRow, newObj, Sem.run]
      · simp [execOp, ho, Instr.buildSlice, run_underlying hdd, run_sizeOf hje, hsz, hn0, run_zeroValue hje hz, hfill, newRow, newObj, Sem.run, show ¬ 2 ^ 24 < n * j.size from by omega]
    · simp [AV.ev, last_name hn]
    · intro h hh
      exact ⟨w.heap.size, vs', last_name hn, AV.evc_ext _ _ _ _ h3, hh⟩
  · trivial
end
end Sx
