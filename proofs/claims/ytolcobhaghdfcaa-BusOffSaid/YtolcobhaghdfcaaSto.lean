/- Stores into slices that one owns, by number; clear. -/
import Derived.Test.YtolcobhaghdfcaaAb
namespace Sx
open Go
theorem op_of_store {tb : Tb} {dst : Option Nat} {T : TypeId} {op : Op} {n : Nat} {z u : Arg} (h : opWith tb dst T op = some (.store n z u)) : ∃ t y x i, op = .store t y x ∧ dst = none ∧ tget tb t = some i ∧ i.size = n ∧ argOf y = some z ∧ argOf x = some u := by
  unfold opWith at h
  split at h
  all_goals try simp only [Option.map_eq_some_iff, Option.bind_eq_some_iff] at h
  · obtain ⟨z, hz, h⟩ := h; cases h
  · obtain ⟨z, hz, h⟩ := h; cases h
  · obtain ⟨z1, h1, z2, h2, h⟩ := h; cases h
  · obtain ⟨i, hi, h⟩ := h; cases h
  · obtain ⟨z, hz, h⟩ := h; cases h
  · obtain ⟨i, hi, pl, hpl, l, hl, h⟩ := h; cases h
  · obtain ⟨i, hi, h⟩ := h
    split at h
    · simp only [Option.bind_eq_some_iff] at h
      obtain ⟨j, hj, h⟩ := h
      rcases cond_some h with ⟨h1, h2⟩ | ⟨_, h2⟩
      · simp only [Option.map_eq_some_iff] at h2
        obtain ⟨l, hl, h⟩ := h2; cases h
      · cases h2
    · cases h
  · obtain ⟨i, hi, z, hz, h⟩ := h; cases h
  · obtain ⟨i, hi, z, hz, u, hu, h⟩ := h; cases h; exact ⟨_, _, _, i, rfl, rfl, hi, rfl, hz, hu⟩
  · obtain ⟨z, hz, h⟩ := h; cases h
  · obtain ⟨z, hz, u, hu, h⟩ := h
    split at h
    · split at h
      · rename_i o' he
        subst h
        simp only [eqOp, Option.bind_eq_some_iff] at he
        obtain ⟨i, hi, he⟩ := he
        split at he
        · cases he
        · cases he
        · cases he
        · cases he
        · cases he
        · simp only [Option.bind_eq_some_iff] at he
          obtain ⟨j, hj, he⟩ := he
          split at he
          · rcases cond_some he with ⟨h1, h2⟩ | ⟨_, h2⟩
            · cases h2
            · cases h2
          · cases he
        · cases he
      · split at h
        · cases h
        · cases h
    · cases h
  · obtain ⟨z, hz, h⟩ := h; cases h
  · obtain ⟨i, hi, h⟩ := h
    split at h
    · simp only [Option.bind_eq_some_iff] at h
      obtain ⟨p, hp, j, hj, h⟩ := h
      rcases cond_some h with ⟨_, h2⟩ | ⟨h1, h2⟩
      · cases h2
      · simp only [Option.map_eq_some_iff] at h2
        obtain ⟨z, hz, h⟩ := h2; cases h
    · cases h
  · obtain ⟨i, hi, h⟩ := h
    split at h
    · simp only [Option.bind_eq_some_iff, Option.map_eq_some_iff] at h
      obtain ⟨p, hp, j, hj, z, hz, h⟩ := h; cases h
    · cases h
  · obtain ⟨i, hi, h⟩ := h
    split at h
    · simp only [Option.bind_eq_some_iff, Option.map_eq_some_iff] at h
      obtain ⟨j, hj, z, hz, u, hu, h⟩ := h; cases h
    · simp only [Option.bind_eq_some_iff, Option.map_eq_some_iff] at h
      obtain ⟨j, hj, z, hz, u, hu, h⟩ := h; cases h
    · cases h
  · obtain ⟨z, hz, h⟩ := h; cases h
  · obtain ⟨z, hz, u, hu, h⟩ := h; cases h
  · obtain ⟨z, hz, u, hu, h⟩ := h; cases h
  · obtain ⟨t, h0, i, hi, h⟩ := h
    split at h
    · simp only [Option.map_eq_some_iff] at h
      obtain ⟨z, hz, h⟩ := h; cases h
    · cases h
  · obtain ⟨i, hi, j, hj, h⟩ := h
    split at h
    · simp only [Option.map_eq_some_iff] at h
      obtain ⟨z, hz, h⟩ := h; cases h
    · cases h
  · obtain ⟨i, hi, h⟩ := h
    split at h
    · simp only [Option.bind_eq_some_iff, Option.map_eq_some_iff] at h
      obtain ⟨j, hj, z, hz, xl, hl, xh, hh, xm, hm, h⟩ := h; cases h
    · simp only [Option.bind_eq_some_iff, Option.map_eq_some_iff] at h
      obtain ⟨j, hj, z, hz, xl, hl, xh, hh, xm, hm, h⟩ := h; cases h
    · cases h
  · cases h


theorem own_put {E : TypeId} {sz : Nat} {a : Option Addr} {n cap : Nat} {xs : List Value} {R : HProp} {w : World} (H : Sat (star (ownH E sz a n cap xs) R) w) (hn : 0 < n) :
    ∃ g cur, a = some ⟨g, 0, none⟩ ∧ w.heap[g]? = some (.cells cur E) ∧ n ≤ cap ∧ cap ≤ maxLen ∧ cur.size = cap * sz ∧ cur.toList.take (n * sz) = xs ∧
      ∀ (cur' : Array Value) (n' : Nat) (xs' : List Value), cur'.size = cap * sz → n' ≤ cap → cur'.toList.take (n' * sz) = xs' → xs'.length = n' * sz → Sat (star (ownH E sz a n' cap xs') R) (putBlock w g (.cells cur' E)) := by
  obtain ⟨h, hle, p, q, d, lp, lq, ⟨h1, h2⟩, hq⟩ := H
  rcases h2 with ⟨_, rfl, _⟩ | ⟨g, cur, rfl, h3, h4, h5, h6, h7⟩
  · omega
  · refine ⟨g, cur, rfl, hle _ _ (lp _ _ h3), h4, h5, h6, h7, fun cur' n' xs' e1 e2 e3 e4 => ?_⟩
    have hp : Sat (star (pts g (.cells cur E)) R) w := ⟨h, hle, p, q, d, lp, lq, h3, hq⟩
    exact (hp.put (o' := .cells cur' E)).mono fun y hy => star_mono (fun z hz => ⟨e4, .inr ⟨g, cur', rfl, hz, e2, h5, e1, e3⟩⟩) (fun _ z => z) hy
theorem take_splice {cur us : List Value} {off n : Nat} (h : off + us.length ≤ n) (hn : n ≤ cur.length) : (cur.take off ++ us ++ cur.drop (off + us.length)).take n = (cur.take n).take off ++ us ++ (cur.take n).drop (off + us.length) := by
  have e : (cur.take off ++ us).length = off + us.length := by rw [List.length_append, List.length_take, Nat.min_eq_left (by omega)]
  rw [List.take_append, List.take_of_length_le (l := cur.take off ++ us) (by omega), e, List.take_take, Nat.min_eq_left (by omega)]
  congr 1
  rw [List.drop_take]
section
variable {cx : Cx} {p : Prop} {n m : Nat} {z u : Arg} {stk : List K} {fr : List (Nat × AV)} {ch : List (Nat × Chunk)} {nx : Nat} {ad : Addr} {E : TypeId} {sz cap l : Nat} {xs : List Value}
theorem ev_stA (ht : tbOk cx.P cx.tb = true) (hp : p) (k : Nat) (hk : lookc ch k = frm (ownH E sz (some ad) l cap xs)) (hkn : Nat.blt k nx = true) {off : Nat} (hz : argv fr z = some (.v (.pointer (some (ad.add off))))) {v : AV} (hu : argv fr u = some v) {us : List Value} {y : Value} (hv : v.ev [] = some y) (hy : y.cells.toList = us) (hus : us.length = n) (hone : ∀ u ∈ us, u.oneCell' = true)
    (hoff : off + n ≤ l * sz) (hst : stabK stk ((k, frm (ownH E sz (some ad) l cap (xs.take off ++ us ++ xs.drop (off + n)))) :: ch)) (hG : Good cx ⟨stk, fr, (k, frm (ownH E sz (some ad) l cap (xs.take off ++ us ++ xs.drop (off + n)))) :: ch, nx⟩) (hn0 : 0 < n) : EvOk cx (.op p (.store n z u) stk fr ch nx) := by
  refine ⟨hp, fun ρ a w H O hx hop => .inl ?_⟩
  obtain ⟨t, y1, x1, i, h1, h2, h3, h4, h5, h6⟩ := op_of_store hop
  have hkn' : k < nx := by simpa using hkn
  have e1 := argv_int H.fr h5 hz rfl
  have e2 := argv_int H.fr h6 hu (by have := AV.ev_ext [] ρ _ _ hv; simpa using this)
  have hS1 := H.sat.take hkn'
  dsimp only at hS1
  rw [hk] at hS1
  have hS2 : Sat (star (ownH E sz (some ad) l cap xs) (big ρ (upd (lookc ch) k .gone) nx)) w := hS1.mono fun h hh => star_mono (fun y hy => by obtain ⟨_, _, hy⟩ := hy; exact hy) (fun _ y => y) hh
  have hl0 : 0 < l := by
    rcases Nat.eq_zero_or_pos l with h | h
    · rw [h] at hoff; omega
    · exact h
  obtain ⟨g, cur, ha, hg, hlc, _, hcs, hxs, hput⟩ := own_put hS2 hl0
  cases ha
  subst hy
  have hle : l * sz ≤ cur.size := by rw [hcs]; exact Nat.mul_le_mul_right _ hlc
  have hrun0 := run_storeVar (P := cx.P) (w := w) (tget_is ht h3) (b := g) (off := off) (vs := cur.toList) (T := E) hg (v := y) (by rw [hus, h4]) (by rw [h4]; simp; omega) hone
  have hrun : (execOp a.eval O).run cx.P w = .ok .skip (putBlock w g (.cells (cur.toList.take off ++ y.cells.toList ++ cur.toList.drop (off + n)).toArray E)) := by
    rw [h4] at hrun0
    have e3 : (⟨g, 0, none⟩ : Addr).add off = ⟨g, off, none⟩ := by rw [addr_add, Nat.zero_add]
    simp [execOp, h1, e1, e2, Instr.storeAt, Instr.sureAddr, e3, hrun0]
  simp only [Oper.wp, hrun, Oper.upon, h2]
  have hxl : xs.length = l * sz := by rw [← hxs, List.length_take]; simp; omega
  refine land0 (σ := []) H (by simpa using H.len) ?_ (Env.putBlock w g _) hst hG
  rw [List.append_nil]
  refine Sat.give ((hput _ l _ ?_ hlc ?_ ?_).mono fun h hh => star_mono (fun y hy => ⟨[], rfl, hy⟩) (fun _ y => y) hh) hkn'
  · simp [hus]; omega
  · show (cur.toList.take off ++ y.cells.toList ++ cur.toList.drop (off + n)).take (l * sz) = _
    rw [← hus, take_splice (by omega) (by simp; omega), hxs]
  · simp [hus, hxl]; omega
theorem run_clear {P : Program} {w : World} {t E : TypeId} {sz bytes : Nat} (hS : RowTy P t E sz bytes) (hone : ∀ i z, P.info? E = some i → i.zero = some z → ∀ u ∈ z.cells.toList, u.oneCell' = true) {g off m c : Nat} {cur : Array Value} (hg : w.heap[g]? = some (.cells cur E)) (hm : off + m * sz ≤ cur.size) (T : TypeId) :
    ∃ us : List Value, us.length = m * sz ∧ (Builtin.clear_ #[t] T #[.slice (some ⟨g, off, none⟩) m c]).run P w = .ok (.tuple #[]) (putBlock w g (.cells (cur.toList.take off ++ us ++ cur.toList.drop (off + us.length)).toArray E)) := by
  obtain ⟨i, z, hi, hz, hsz, hby, hzs⟩ := hS.info
  cases m with
  | zero =>
    refine ⟨[], by simp, ?_⟩
    have e : putBlock w g (.cells (cur.toList.take off ++ [] ++ cur.toList.drop (off + ([] : List Value).length)).toArray E) = w := by
      have : (cur.toList.take off ++ [] ++ cur.toList.drop (off + ([] : List Value).length)).toArray = cur := by
        apply Array.ext'; simp
      rw [this]
      unfold putBlock
      have h1 : w.heap.setIfInBounds g (.cells cur E) = w.heap := by
        apply Array.ext_getElem?
        intro k
        rw [Array.getElem?_setIfInBounds]
        by_cases hk : g = k
        · subst hk
          have hlt := (Array.getElem?_eq_some_iff.1 hg).1
          rw [if_pos rfl, if_pos hlt, hg]
        · rw [if_neg hk]
      rw [h1]
    rw [e]
    simp [Builtin.clear_, run_underlying hS.und]
  | succ m =>
    refine ⟨(Builtin.zeroCells z.cells (m + 1)).toList, by simp [Builtin.zeroCells, hzs], ?_⟩
    have h1 : ∀ v ∈ (Builtin.zeroCells z.cells (m + 1)).toList, v.oneCell' = true := fun v hv => by
      simp only [Builtin.zeroCells, Array.toList_map, Array.toList_range, List.mem_map, List.mem_range] at hv
      obtain ⟨j, hj, rfl⟩ := hv
      have hp := hS.pos
      have hlt : j % z.cells.size < z.cells.size := Nat.mod_lt _ (by rw [hzs]; exact hp)
      rw [getElem!_pos z.cells _ hlt]
      exact hone i z hi hz _ (by simp)
    have h2 := run_storeCells_at (P := P) g off E (Builtin.zeroCells z.cells (m + 1)).toList 0 cur w hg (by simp [Builtin.zeroCells, hzs]; omega) h1
    have h3 : (Builtin.clear_ #[t] T #[.slice (some ⟨g, off, none⟩) (m + 1) c]).run P w = .ok (.tuple #[]) (w.setRow g (cur.toList.take (off + 0) ++ (Builtin.zeroCells z.cells (m + 1)).toList ++ cur.toList.drop (off + 0 + (Builtin.zeroCells z.cells (m + 1)).toList.length)).toArray) := by
      unfold Builtin.clear_
      simp [run_underlying hS.und, run_zeroValue hi hz, h2]
    rw [h3]
    simp only [Nat.add_zero]
    have := setRow_put (w := w) (b := g) (vs := cur.toList) (T := E) hg (cur.toList.take off ++ (Builtin.zeroCells z.cells (m + 1)).toList ++ cur.toList.drop (off + (Builtin.zeroCells z.cells (m + 1)).toList.length))
    rw [this]
/-- clear of the end of a slice that one owns -/
theorem ev_clearA {t bytes i : Nat} {o1 : Operand} {z1 : Arg} {a2 : Option Addr} {c2 : Nat} {T : TypeId} (hS : RowTy cx.P t E sz bytes) (hone : ∀ i z, cx.P.info? E = some i → i.zero = some z → ∀ u ∈ z.cells.toList, u.oneCell' = true) (hp : p) (k : Nat) (hk : lookc ch k = frm (ownH E sz (some ad) l cap xs)) (hkn : Nat.blt k nx = true) (h1 : argOf o1 = some z1) (hs : argv fr z1 = some (.v (.slice a2 m c2)))
    (ha2 : 0 < m → a2 = some (ad.add (i * sz))) (hm : i + m = l) (hl : 0 < l) (hst : stabK stk ((k, frm (ownH E sz (some ad) i cap (xs.take (i * sz)))) :: ch)) (hG : Good cx ⟨stk, fr, (k, frm (ownH E sz (some ad) i cap (xs.take (i * sz)))) :: ch, nx⟩) :
    EvOk cx (.op p (.other none (.call ⟨.builtin .clear, #[o1], #[t]⟩) T) stk fr ch nx) := by
  refine ev_sem0 (X := Unit) (ch' := fun _ => (k, frm (ownH E sz (some ad) i cap (xs.take (i * sz)))) :: ch) (m := fun _ => 0) hp (fun ρ act w O hF hn hs0 hop hT => ?_) (fun _ => hst) (fun _ => hG)
  have hkn' : k < nx := by simpa using hkn
  have e1 := argv_int hF h1 hs rfl
  have hS1 := hs0.take hkn'
  rw [hk] at hS1
  have hS2 : Sat (star (ownH E sz (some ad) l cap xs) (big ρ (upd (lookc ch) k .gone) nx)) w := hS1.mono fun h hh => star_mono (fun y hy => by obtain ⟨_, _, hy⟩ := hy; exact hy) (fun _ y => y) hh
  obtain ⟨g, cur, ha, hg, hlc, _, hcs, hxs, hput⟩ := own_put hS2 hl
  cases ha
  have hil : i * sz ≤ l * sz := Nat.mul_le_mul_right _ (by omega)
  have hle : l * sz ≤ cur.size := by rw [hcs]; exact Nat.mul_le_mul_right _ hlc
  have fin : ∀ w', (Builtin.clear_ #[t] O.type #[.slice a2 m c2]).run cx.P w = .ok (.tuple #[]) w' → Env w w' → Sat (star (ownH E sz (some ⟨g, 0, none⟩) i cap (xs.take (i * sz))) (big ρ (upd (lookc ch) k .gone) nx)) w' →
      ∃ (x : Unit) (w' : World), ∃ σ : List Nat, σ.length = 0 ∧ (∃ y : Next, (y = .skip ∨ ∃ v, y = .value v) ∧ (execOp act.eval O).run cx.P w = .ok y w') ∧ Env w w' ∧ Sat (big (ρ ++ σ) (lookc ((k, frm (ownH E sz (some ⟨g, 0, none⟩) i cap (xs.take (i * sz)))) :: ch)) (nx + 0)) w' := fun w' hr he hsat => by
    refine ⟨(), w', [], rfl, ⟨.value (.tuple #[]), .inr ⟨_, rfl⟩, ?_⟩, he, ?_⟩
    · simp [execOp, hop, resolve, e1, invoke, builtin, hr]
    · rw [List.append_nil, Nat.add_zero]
      exact Sat.give (hsat.mono fun h hh => star_mono (fun y hy => ⟨[], rfl, hy⟩) (fun _ y => y) hh) hkn'
  have hxl : xs.length = l * sz := by
    rw [← hxs, List.length_take]; simp; omega
  have shrink : ∀ cur' : Array Value, cur'.toList.take (i * sz) = xs.take (i * sz) → cur'.size = cap * sz → Sat (star (ownH E sz (some ⟨g, 0, none⟩) i cap (xs.take (i * sz))) (big ρ (upd (lookc ch) k .gone) nx)) (putBlock w g (.cells cur' E)) := fun cur' h2 h3 =>
    hput cur' i (xs.take (i * sz)) h3 (by omega) h2 (by rw [List.length_take, hxl]; omega)
  rcases Nat.eq_zero_or_pos m with hm0 | hm0
  · subst hm0
    refine fin w ?_ (Env.refl w) ?_
    · cases a2 <;> simp [Builtin.clear_, run_underlying hS.und]
    · have hil : i = l := by omega
      subst hil
      have : xs.take (i * sz) = xs := List.take_of_length_le (by rw [← hxs, List.length_take]; omega)
      rw [this]; exact hS2
  · rw [ha2 hm0] at fin
    rw [show (⟨g, 0, none⟩ : Addr).add (i * sz) = ⟨g, i * sz, none⟩ by rw [addr_add, Nat.zero_add]] at fin
    have hms : i * sz + m * sz ≤ cur.size := by rw [← Nat.add_mul, hm]; exact hle
    obtain ⟨us, hus, hr⟩ := run_clear (P := cx.P) (w := w) hS hone (c := c2) hg hms O.type
    refine fin _ hr (Env.putBlock w g _) (shrink _ ?_ ?_)
    · show (cur.toList.take (i * sz) ++ us ++ cur.toList.drop (i * sz + us.length)).take (i * sz) = _
      rw [List.append_assoc, List.take_append, List.take_take, Nat.min_self, List.length_take, Nat.min_eq_left (by simp; omega), Nat.sub_self, List.take_zero, List.append_nil, ← hxs, List.take_take, Nat.min_eq_left hil]
    · simp [hus]; omega
end
end Sx
