/- Blocks, slices and maps that go by numbers (and not by names): what is owned, what may be read; the rules. -/
import Derived.Test.YtolcobhaghdfcaaMp
import Derived.Maps.AppendAt
namespace Sx
open Go

/-! ### cells of a part of the heap -/
def Hp.cell (h : Hp) (a : Addr) : Option Value :=
  match h a.block with
  | some (.cells c _ _) => if a.spot.isSome then none else c[a.off]?
  | _ => none
theorem Hp.cell_le {h : Hp} {w : World} (hl : Hp.le h (Hp.of w)) {a : Addr} {v : Value} (H : h.cell a = some v) : w.cell? a = some v := by
  unfold Hp.cell at H
  split at H
  · rename_i c e f hb
    have := hl _ _ hb
    simp only [Hp.of] at this
    simp only [World.cell?, this]; exact H
  · cases H
theorem Hp.cell_mono {h h' : Hp} (hl : Hp.le h h') {a : Addr} {v : Value} (H : h.cell a = some v) : h'.cell a = some v := by
  unfold Hp.cell at H ⊢
  split at H
  · rename_i c e f hb
    rw [hl _ _ hb]; exact H
  · cases H
theorem add_add (a : Addr) (m n : Nat) : (a.add m).add n = a.add (m + n) := by
  unfold Addr.add
  by_cases hm : m = 0
  · subst hm; simp
  · by_cases hn : n = 0
    · subst hn; simp [hm]
    · have : m + n ≠ 0 := by omega
      simp [hm, hn, this, Nat.add_assoc]
/-- these values stand from a on -/
def rdA (a : Option Addr) (l : List Value) : HProp := fun h => ∀ j v, l[j]? = some v → ∃ ad, a = some ad ∧ h.cell (ad.add j) = some v
/-- a slice that one owns, and may append to -/
def ownH (E : TypeId) (sz : Nat) (a : Option Addr) (n cap : Nat) (xs : List Value) : HProp := fun h => xs.length = n * sz ∧
  ((a = none ∧ n = 0 ∧ cap = 0) ∨ ∃ g cur, a = some ⟨g, 0, none⟩ ∧ h g = some (.cells cur E) ∧ n ≤ cap ∧ cap ≤ maxLen ∧ cur.size = cap * sz ∧ cur.toList.take (n * sz) = xs)
/-- a slice whose elements one owns -/
def ownZ (E : TypeId) (sz : Nat) (a : Option Addr) (n : Nat) (xs : List Value) : HProp := fun h => xs.length = n * sz ∧
  (n = 0 ∨ ∃ g cur, a = some ⟨g, 0, none⟩ ∧ h g = some (.cells cur E) ∧ cur.toList.take (n * sz) = xs)
theorem ownH_Z {E : TypeId} {sz : Nat} {a : Option Addr} {n cap : Nat} {xs : List Value} {h : Hp} (H : ownH E sz a n cap xs h) : ownZ E sz a n xs h := by
  obtain ⟨h1, ⟨rfl, rfl, rfl⟩ | ⟨g, cur, h2, h3, _, _, _, h4⟩⟩ := H
  · exact ⟨h1, .inl rfl⟩
  · exact ⟨h1, .inr ⟨g, cur, h2, h3, h4⟩⟩
theorem ownZ_rd {E : TypeId} {sz : Nat} {a : Option Addr} {n : Nat} {xs : List Value} {h : Hp} (H : ownZ E sz a n xs h) : rdA a xs h := by
  obtain ⟨h1, rfl | ⟨g, cur, rfl, h3, h4⟩⟩ := H
  · intro j v hj
    rw [Nat.zero_mul] at h1
    rw [List.eq_nil_of_length_eq_zero h1] at hj; simp at hj
  · intro j v hj
    refine ⟨_, rfl, ?_⟩
    have hlt := (List.getElem?_eq_some_iff.1 hj).1
    rw [← h4, List.getElem?_take] at hj
    split at hj
    · rw [Addr.add_lit]
      simp only [Hp.cell, h3, Option.isSome_none, Nat.zero_add, Bool.false_eq_true, if_false]
      simpa using hj
    · cases hj
theorem ownH_rd {E : TypeId} {sz : Nat} {a : Option Addr} {n cap : Nat} {xs : List Value} {h : Hp} (H : ownH E sz a n cap xs h) : rdA a xs h := ownZ_rd (ownH_Z H)
theorem ownH_nil (E : TypeId) (sz : Nat) (h : Hp) : ownH E sz none 0 0 [] h := ⟨by simp, .inl ⟨rfl, rfl, rfl⟩⟩
theorem ownH_row {E : TypeId} {sz : Nat} {a : Option Addr} {n cap : Nat} {xs : List Value} {h : Hp} {w : World} (hl : Hp.le h (Hp.of w)) (H : ownH E sz a n cap xs h) : w.ownsRow 0 E sz (.slice a n cap) n xs := by
  obtain ⟨h1, ⟨rfl, rfl, rfl⟩ | ⟨g, cur, rfl, h3, h4, h5, h6, h7⟩⟩ := H
  · exact ⟨h1, .inl ⟨rfl, rfl⟩⟩
  · exact ⟨h1, .inr ⟨g, cap, cur, rfl, Nat.zero_le _, hl _ _ h3, h4, h5, h6, h7⟩⟩
theorem own_grow {E : TypeId} {sz : Nat} {a : Option Addr} {n cap n' : Nat} {xs xs' : List Value} {R : HProp} {w w' : World} {v' : Value} (H : Sat (star (ownH E sz a n cap xs) R) w) (ho : w'.ownsRow 0 E sz v' n' xs')
    (hg : w.grownBy w' (Value.slice a n cap).ownBlock) (hloc : v'.ownBlock = (Value.slice a n cap).ownBlock ∨ v'.ownBlock = some w.heap.size) : ∃ a' cap', v' = .slice a' n' cap' ∧ Sat (star (ownH E sz a' n' cap' xs') R) w' := by
  obtain ⟨h, hle, p, q, d, lp, lq, hp, hq⟩ := H
  have hqw : ∀ k o, q k = some o → w.heap[k]? = some o := fun k o e => hle k o (lq k o e)
  have hown : ∀ k, (Value.slice a n cap).ownBlock = some k → q k = none := fun k hk => by
    obtain ⟨_, ⟨rfl, _, _⟩ | ⟨g, cur, rfl, h3, _⟩⟩ := hp
    · simp [Value.ownBlock] at hk
    · simp only [Value.ownBlock, Option.some.injEq] at hk
      subst hk
      rcases d g with e | e
      · rw [h3] at e; cases e
      · exact e
  have hq' : Hp.le q (Hp.of w') := fun k o e => by
    have h1 := hqw k o e
    have hlt : k < w.heap.size := (Array.getElem?_eq_some_iff.1 h1).1
    show w'.heap[k]? = some o
    rw [hg.block k hlt (fun he => by rw [hown k he.symm] at e; cases e)]; exact h1
  obtain ⟨hl, ⟨rfl, rfl⟩ | ⟨g, cap', cur, rfl, _, h3, h4, h5, h6, h7⟩⟩ := ho
  · exact ⟨none, 0, rfl, q, hq', fun _ => none, q, fun _ => .inl rfl, (fun _ _ e => by cases e), Hp.le.refl q, ⟨hl, .inl ⟨rfl, rfl, rfl⟩⟩, hq⟩
  · have hgq : q g = none := by
      rcases hloc with e | e
      · exact hown g (by rw [← e]; rfl)
      · simp only [Value.ownBlock, Option.some.injEq] at e
        cases hx : q g with
        | none => rfl
        | some o => have := hqw g o hx; rw [e] at this; simp at this
    have dd : Hp.disj (fun k => if k = g then some (.cells cur E) else none) q := fun k => by
      by_cases hk : k = g
      · right; rw [hk]; exact hgq
      · left; simp [hk]
    refine ⟨some ⟨g, 0, none⟩, cap', rfl, Hp.join (fun k => if k = g then some (.cells cur E) else none) q, Hp.join_le ?_ hq', _, q, dd, Hp.le_join_left _ _, Hp.le_join_right dd, ⟨hl, .inr ⟨g, cur, rfl, by simp, h4, h5, h6, h7⟩⟩, hq⟩
    intro k x e
    by_cases hk : k = g
    · simp [hk] at e; subst e; subst hk; exact h3
    · simp [hk] at e

/-- the facts of a slice's element type -/
structure RowTy (P : Program) (t e : TypeId) (sz bytes : Nat) : Prop where
  und : P.underlying t = some (.slice e)
  info : ∃ i z, P.info? e = some i ∧ i.zero = some z ∧ i.size = sz ∧ i.bytes = bytes ∧ z.cells.size = sz
  pos : 0 < sz

section
variable {cx : Cx} {p : Prop} {d : Nat} {T t E : TypeId} {sz bytes : Nat} {o1 o2 : Operand} {z1 : Arg} {stk : List K} {fr : List (Nat × AV)} {ch : List (Nat × Chunk)} {nx : Nat} {a : Option Addr} {n cap m : Nat} {xs us : List Value}
/-- what a source of an append, or a copy, is to be -/
def Src (fr : List (Nat × AV)) (ch : List (Nat × Chunk)) (nx : Nat) (o : Operand) (m : Nat) (us : List Value) : Prop :=
  ∀ (ρ : List Nat) (act : Act) (w : World), FrOk ρ fr act → ρ.length = nx → Sat (big ρ (lookc ch) nx) w → ∃ a2 cap2, act.eval o = .slice a2 m cap2 ∧ (a2 = none → cap2 = 0) ∧ ∀ j u, us[j]? = some u → ∃ ad, a2 = some ad ∧ w.cell? (ad.add j) = some u
theorem src_abs {o : Operand} {z : Arg} {a2 : Option Addr} {cap2 : Nat} (k : Nat) {R : HProp} (hk : lookc ch k = frm R) (hkn : Nat.blt k nx = true) (h1 : argOf o = some z) (h2 : argv fr z = some (.v (.slice a2 m cap2))) (h0 : a2 = none → cap2 = 0) (hR : ∀ h, R h → rdA a2 us h) : Src fr ch nx o m us := by
  intro ρ act w hF hn hS
  have hkn' : k < nx := by simpa using hkn
  have e1 := argv_int hF h1 h2 rfl
  obtain ⟨h, hle, hh⟩ := hS.big hkn'
  rw [hk] at hh
  obtain ⟨_, _, hh⟩ := hh
  refine ⟨a2, cap2, e1, h0, fun j u hj => ?_⟩
  obtain ⟨ad, e, hc⟩ := hR h hh j u hj
  exact ⟨ad, e, Hp.cell_le hle hc⟩
theorem src_named {o : Operand} {z : Arg} {c off cap2 : Nat} {cs : List AV} {T2 : TypeId} {vs : List Value} (h1 : argOf o = some z) (h2 : argv fr z = some (.slc c off m cap2)) (hc : lookc ch c = .cells cs T2) (hcs : AV.evc [] cs = some vs) (hus : ∀ j u, us[j]? = some u → vs[off + j]? = some u) : Src fr ch nx o m us := by
  intro ρ act w hF hn hS
  have he := argOf_ok hF h1 h2
  simp only [AV.ev, Option.map_eq_some_iff] at he
  obtain ⟨b, hb, he⟩ := he
  obtain ⟨vs', h3, h4⟩ := hS.each.cells hn hb hc
  have h5 := AV.evc_ext [] ρ _ _ hcs
  rw [List.nil_append, h3] at h5
  cases h5
  refine ⟨_, cap2, he.symm, (fun e => by cases e), fun j u hj => ⟨_, rfl, ?_⟩⟩
  rw [Addr.add_lit]
  exact cell_of_block h4 (hus j u hj)
/-- append, to a slice that one owns -/
theorem ev_appA (hS : RowTy cx.P t E sz bytes) (hp : p) (k : Nat) (hk : lookc ch k = frm (ownH E sz a n cap xs)) (hkn : Nat.blt k nx = true) (h1 : argOf o1 = some z1) (hs : argv fr z1 = some (.v (.slice a n cap))) (hsrc : Src fr ch nx o2 m us)
    (hm : us.length = m * sz) (hone : ∀ u ∈ us, u.oneCell' = true) (hbd : (n + m) * bytes ≤ 140737488355328 ∧ n + m ≤ maxLen) (hst : ∀ x, stabK stk ((k, x) :: ch))
    (hG : ∀ a' cap', Good cx ⟨stk, (d, .v (.slice a' (n + m) cap')) :: fr, (k, frm (ownH E sz a' (n + m) cap' (xs ++ us))) :: ch, nx⟩) :
    EvOk cx (.op p (.other (some d) (.call ⟨.builtin .append, #[o1, o2], #[t, t]⟩) T) stk fr ch nx) := by
  refine ev_sem (X := Option Addr × Nat) (rv := fun x => .v (.slice x.1 (n + m) x.2)) (ch' := fun x => (k, frm (ownH E sz x.1 (n + m) x.2 (xs ++ us))) :: ch) (m := fun _ => 0) hp (fun ρ act w O hF hn hs0 hop hT => ?_) (fun x => hst _) (fun x => hG x.1 x.2)
  have hkn' : k < nx := by simpa using hkn
  have e1 := argv_int hF h1 hs rfl
  obtain ⟨a2, cap2, e2, h0, hread⟩ := hsrc ρ act w hF hn hs0
  have hS1 := hs0.take hkn'
  rw [hk] at hS1
  have hS2 : Sat (star (ownH E sz a n cap xs) (big ρ (upd (lookc ch) k .gone) nx)) w := hS1.mono fun h hh => star_mono (fun y hy => by obtain ⟨_, _, hy⟩ := hy; exact hy) (fun _ y => y) hh
  have hrow : w.ownsRow 0 E sz (.slice a n cap) n xs := by
    obtain ⟨h, hle, y, q, _, ly, _, hy, _⟩ := hS2
    exact ownH_row (ly.trans hle) hy
  obtain ⟨i, z, hi, hz, hsz, hby, hzs⟩ := hS.info
  have fin : ∀ v' w', (Builtin.append_ #[t, t] T #[.slice a n cap, .slice a2 m cap2]).run cx.P w = .ok v' w' → w'.ownsRow 0 E sz v' (n + m) (xs ++ us) → w.grownBy w' (Value.slice a n cap).ownBlock → (v'.ownBlock = (Value.slice a n cap).ownBlock ∨ v'.ownBlock = some w.heap.size) →
      ∃ (x : Option Addr × Nat) (y : Value) (w' : World), ∃ σ : List Nat, σ.length = 0 ∧ (AV.v (.slice x.1 (n + m) x.2)).ev (ρ ++ σ) = some y ∧ (execOp act.eval O).run cx.P w = .ok (.value y) w' ∧ Env w w' ∧ Sat (big (ρ ++ σ) (lookc ((k, frm (ownH E sz x.1 (n + m) x.2 (xs ++ us))) :: ch)) (nx + 0)) w' := fun v' w' hr ho hg hloc => by
    obtain ⟨a', cap', rfl, hsat⟩ := own_grow hS2 ho hg hloc
    refine ⟨(a', cap'), _, w', [], rfl, rfl, ?_, ⟨hg.os, hg.tape, hg.output, hg.size⟩, ?_⟩
    · simp [execOp, hop, hT, resolve, e1, e2, invoke, builtin, hr]
    · rw [List.append_nil, Nat.add_zero]
      exact Sat.give (hsat.mono fun h hh => star_mono (fun y hy => ⟨[], rfl, hy⟩) (fun _ y => y) hh) hkn'
  cases a2 with
  | none =>
    have hu0 : us = [] := by
      cases us with
      | nil => rfl
      | cons u r =>
        obtain ⟨ad, e, _⟩ := hread 0 u rfl
        cases e
    subst hu0
    have hm0 : m = 0 := by
      rcases Nat.mul_eq_zero.1 hm.symm with h | h
      · exact h
      · have := hS.pos; omega
    subst hm0
    rw [h0 rfl] at *
    refine fin _ w (run_append_owned_none (P := cx.P) w 0 t T E i sz hS.und hi _ n xs hrow) ?_ ⟨rfl, rfl, rfl, Nat.le_refl _, fun _ _ _ => rfl⟩ (.inl rfl)
    rw [List.append_nil, Nat.add_zero]; exact hrow
  | some ad =>
    have hread' : ∀ j u, us[j]? = some u → w.cell? (ad.add j) = some u := fun j u hj => by
      obtain ⟨ad', e, h⟩ := hread j u hj
      cases e; exact h
    obtain ⟨v', w', hr, ho, hg, _, hloc⟩ := run_append_own_at (P := cx.P) (w := w) 0 t T E i z sz bytes hS.und hi hz hsz hby hzs hS.pos (.slice a n cap) n xs hrow ad m cap2 us hm hread' hone hbd.2 hbd.1 (Nat.zero_le _)
    exact fin v' w' hr ho hg hloc
end

/-! ### loads by number -/
theorem op_of_load {tb : Tb} {dst : Option Nat} {T : TypeId} {op : Op} {d n : Nat} {ag : Bool} {z : Arg} (h : opWith tb dst T op = some (.load d n ag z)) : ∃ t y i, op = .load t y ∧ dst = some d ∧ tget tb t = some i ∧ i.size = n ∧ i.agg = ag ∧ argOf y = some z := by
  unfold opWith at h
  split at h
  all_goals try simp only [Option.map_eq_some_iff, Option.bind_eq_some_iff] at h
  · obtain ⟨z, hz, h⟩ := h; cases h
  · obtain ⟨z, hz, h⟩ := h; cases h
  · obtain ⟨z1, h1, z2, h2, h⟩ := h; cases h
  · obtain ⟨i, hi, h⟩ := h; cases h
  · obtain ⟨z, hz, h⟩ := h; cases h
  · obtain ⟨i, hi, pl, hpl, l, hl, h⟩ := h; cases h
  · obtain ⟨i, hi, h⟩ := h
    split at h
    · simp only [Option.bind_eq_some_iff] at h
      obtain ⟨j, hj, h⟩ := h
      rcases cond_some h with ⟨h1, h2⟩ | ⟨_, h2⟩
      · simp only [Option.map_eq_some_iff] at h2
        obtain ⟨l, hl, h⟩ := h2; cases h
      · cases h2
    · cases h
  · obtain ⟨i, hi, z, hz, h⟩ := h; cases h; exact ⟨_, _, i, rfl, rfl, hi, rfl, rfl, hz⟩
  · obtain ⟨i, hi, z, hz, u, hu, h⟩ := h; cases h
  · obtain ⟨z, hz, h⟩ := h; cases h
  · obtain ⟨z, hz, u, hu, h⟩ := h
    split at h
    · split at h
      · rename_i o' he
        subst h
        simp only [eqOp, Option.bind_eq_some_iff] at he
        obtain ⟨i, hi, he⟩ := he
        split at he
        · cases he
        · cases he
        · cases he
        · cases he
        · cases he
        · simp only [Option.bind_eq_some_iff] at he
          obtain ⟨j, hj, he⟩ := he
          split at he
          · rcases cond_some he with ⟨h1, h2⟩ | ⟨_, h2⟩
            · cases h2
            · cases h2
          · cases he
        · cases he
      · split at h
        · cases h
        · cases h
    · cases h
  · obtain ⟨z, hz, h⟩ := h; cases h
  · obtain ⟨i, hi, h⟩ := h
    split at h
    · simp only [Option.bind_eq_some_iff] at h
      obtain ⟨p, hp, j, hj, h⟩ := h
      rcases cond_some h with ⟨_, h2⟩ | ⟨h1, h2⟩
      · cases h2
      · simp only [Option.map_eq_some_iff] at h2
        obtain ⟨z, hz, h⟩ := h2; cases h
    · cases h
  · obtain ⟨i, hi, h⟩ := h
    split at h
    · simp only [Option.bind_eq_some_iff, Option.map_eq_some_iff] at h
      obtain ⟨p, hp, j, hj, z, hz, h⟩ := h; cases h
    · cases h
  · obtain ⟨i, hi, h⟩ := h
    split at h
    · simp only [Option.bind_eq_some_iff, Option.map_eq_some_iff] at h
      obtain ⟨j, hj, z, hz, u, hu, h⟩ := h; cases h
    · simp only [Option.bind_eq_some_iff, Option.map_eq_some_iff] at h
      obtain ⟨j, hj, z, hz, u, hu, h⟩ := h; cases h
    · cases h
  · obtain ⟨z, hz, h⟩ := h; cases h
  · obtain ⟨z, hz, u, hu, h⟩ := h; cases h
  · obtain ⟨z, hz, u, hu, h⟩ := h; cases h
  · obtain ⟨t, h0, i, hi, h⟩ := h
    split at h
    · simp only [Option.map_eq_some_iff] at h
      obtain ⟨z, hz, h⟩ := h; cases h
    · cases h
  · obtain ⟨i, hi, j, hj, h⟩ := h
    split at h
    · simp only [Option.map_eq_some_iff] at h
      obtain ⟨z, hz, h⟩ := h; cases h
    · cases h
  · obtain ⟨i, hi, h⟩ := h
    split at h
    · simp only [Option.bind_eq_some_iff, Option.map_eq_some_iff] at h
      obtain ⟨j, hj, z, hz, xl, hl, xh, hh, xm, hm, h⟩ := h; cases h
    · simp only [Option.bind_eq_some_iff, Option.map_eq_some_iff] at h
      obtain ⟨j, hj, z, hz, xl, hl, xh, hh, xm, hm, h⟩ := h; cases h
    · cases h
  · cases h

section
variable {cx : Cx} {p : Prop} {d n : Nat} {z : Arg} {stk : List K} {fr : List (Nat × AV)} {ch : List (Nat × Chunk)} {nx : Nat} {ad : Addr}
/-- what stands at an address that is known by its number: one value -/
theorem ev_ld1 (ht : tbOk cx.P cx.tb = true) (hp : p) (k : Nat) {R : HProp} (hk : lookc ch k = frm R) (hkn : Nat.blt k nx = true) (hz : argv fr z = some (.v (.pointer (some ad)))) (r : AV) {v : Value} (hr : r.ev [] = some v) (hR : ∀ h, R h → h.cell ad = some v)
    (hst : stabK stk ch) (hG : Good cx ⟨stk, (d, r) :: fr, ch, nx⟩) : EvOk cx (.op p (.load d n false z) stk fr ch nx) := by
  refine ⟨hp, fun ρ a w H O hx hop => .inl ?_⟩
  obtain ⟨t, y, i, h1, h2, h3, h4, h5, h6⟩ := op_of_load hop
  have hkn' : k < nx := by simpa using hkn
  have e1 := argv_int H.fr h6 hz rfl
  obtain ⟨h, hle, hh⟩ := H.sat.big hkn'
  rw [hk] at hh
  obtain ⟨_, _, hh⟩ := hh
  have hc := Hp.cell_le hle (hR h hh)
  obtain ⟨dd, hd, hag, _⟩ := (tget_is ht h3).und
  have hrun : (execOp a.eval O).run cx.P w = .ok (.value v) w := by
    simp [execOp, h1, e1, Instr.loadAt, Instr.sureAddr, loadVar, run_isAgg hd, hag, h5, hc]
  rw [h2] at hx
  simp only [Oper.wp, hrun, Oper.upon, h2]
  have hrv := AV.ev_ext [] ρ _ _ hr
  exact land (σ := []) H hx (by simpa using H.len) (by simpa using hrv) (by simpa using H.sat) (Env.refl w) hst hG
/-- .. and many -/
theorem ev_ldN (ht : tbOk cx.P cx.tb = true) (hp : p) (k : Nat) {R : HProp} (hk : lookc ch k = frm R) (hkn : Nat.blt k nx = true) (hz : argv fr z = some (.v (.pointer (some ad)))) (r : AV) {us : List Value} (hr : r.ev [] = some (.agg us.toArray)) (hus : us.length = n) (hR : ∀ h, R h → ∀ j u, us[j]? = some u → h.cell (ad.add j) = some u)
    (hst : stabK stk ch) (hG : Good cx ⟨stk, (d, r) :: fr, ch, nx⟩) : EvOk cx (.op p (.load d n true z) stk fr ch nx) := by
  refine ⟨hp, fun ρ a w H O hx hop => .inl ?_⟩
  obtain ⟨t, y, i, h1, h2, h3, h4, h5, h6⟩ := op_of_load hop
  have hkn' : k < nx := by simpa using hkn
  have e1 := argv_int H.fr h6 hz rfl
  obtain ⟨h, hle, hh⟩ := H.sat.big hkn'
  rw [hk] at hh
  obtain ⟨_, _, hh⟩ := hh
  have hc : ∀ j u, us[j]? = some u → w.cell? (ad.add j) = some u := fun j u hj => Hp.cell_le hle (hR h hh j u hj)
  obtain ⟨⟨j, hj, hs, _⟩, dd, hd, hag, _⟩ := tget_is ht h3
  have h7 := run_loadCells_list (P := cx.P) w ad us hc
  rw [hus] at h7
  have hrun : (execOp a.eval O).run cx.P w = .ok (.value (.agg us.toArray)) w := by
    simp [execOp, h1, e1, Instr.loadAt, Instr.sureAddr, loadVar, run_isAgg hd, hag, h5, run_sizeOf hj, hs, h4, h7]
  rw [h2] at hx
  simp only [Oper.wp, hrun, Oper.upon, h2]
  have hrv := AV.ev_ext [] ρ _ _ hr
  exact land (σ := []) H hx (by simpa using H.len) (by simpa using hrv) (by simpa using H.sat) (Env.refl w) hst hG
end

/-! ### .. and in regions that draw their order -/
section
variable {cx : Cx} {d n : Nat} {z : Arg} {fr : List (Nat × AV)} {ch : List (Nat × Chunk)} {nx : Nat} {stk : List K} {g : Option (Nat × Bool)} {ρ0 : List Nat} {sch : List (Nat × Chunk)} {ops : Array Oper} {r : List (Nat × Kd × GOp)} {i : Nat} {ad : Addr}
theorem dq_ld1 (ht : tbOk cx.P cx.tb = true) (hg : gres fr g = .run) (k : Nat) {R : HProp} (hk : lookc sch k = frm R) (hkn : Nat.blt k nx = true) (hz : argv fr z = some (.v (.pointer (some ad)))) (u : AV) {v : Value} (hr : u.ev [] = some v) (hR : ∀ h, R h → h.cell ad = some v)
    (hG : Good cx ⟨.dops true ρ0 sch ops r :: stk, (d, u) :: fr, ch, nx⟩) : Good cx ⟨.dops true ρ0 sch ops ((i, .quiet, (g, .load d n false z)) :: r) :: stk, fr, ch, nx⟩ := by
  refine dq_val hg (v := u) (fun ρ a w x hF hn hE hop => ?_) hG
  obtain ⟨t, y, i, h1, h2, h3, h4, h5, h6⟩ := op_of_load hop
  have hkn' : k < nx := by simpa using hkn
  have e1 := argv_int hF h6 hz rfl
  obtain ⟨h, hle, hh⟩ := hE k hkn'
  rw [hk] at hh
  obtain ⟨_, _, hh⟩ := hh
  have hc := Hp.cell_le hle (hR h hh)
  obtain ⟨dd, hd, hag, _⟩ := (tget_is ht h3).und
  refine ⟨h2, v, by have := AV.ev_ext [] ρ _ _ hr; simpa using this, ?_⟩
  simp [execOp, h1, e1, Instr.loadAt, Instr.sureAddr, loadVar, run_isAgg hd, hag, h5, hc]
theorem dq_ldN (ht : tbOk cx.P cx.tb = true) (hg : gres fr g = .run) (k : Nat) {R : HProp} (hk : lookc sch k = frm R) (hkn : Nat.blt k nx = true) (hz : argv fr z = some (.v (.pointer (some ad)))) (u : AV) {us : List Value} (hr : u.ev [] = some (.agg us.toArray)) (hus : us.length = n) (hR : ∀ h, R h → ∀ j u, us[j]? = some u → h.cell (ad.add j) = some u)
    (hG : Good cx ⟨.dops true ρ0 sch ops r :: stk, (d, u) :: fr, ch, nx⟩) : Good cx ⟨.dops true ρ0 sch ops ((i, .quiet, (g, .load d n true z)) :: r) :: stk, fr, ch, nx⟩ := by
  refine dq_val hg (v := u) (fun ρ a w x hF hn hE hop => ?_) hG
  obtain ⟨t, y, i, h1, h2, h3, h4, h5, h6⟩ := op_of_load hop
  have hkn' : k < nx := by simpa using hkn
  have e1 := argv_int hF h6 hz rfl
  obtain ⟨h, hle, hh⟩ := hE k hkn'
  rw [hk] at hh
  obtain ⟨_, _, hh⟩ := hh
  have hc : ∀ j u, us[j]? = some u → w.cell? (ad.add j) = some u := fun j u hj => Hp.cell_le hle (hR h hh j u hj)
  obtain ⟨⟨j, hj, hs, _⟩, dd, hd, hag, _⟩ := tget_is ht h3
  have h7 := run_loadCells_list (P := cx.P) w ad us hc
  rw [hus] at h7
  refine ⟨h2, .agg us.toArray, by have := AV.ev_ext [] ρ _ _ hr; simpa using this, ?_⟩
  simp [execOp, h1, e1, Instr.loadAt, Instr.sureAddr, loadVar, run_isAgg hd, hag, h5, run_sizeOf hj, hs, h4, h7]
end

/-! ### resources without names -/
section
variable {cx : Cx} {stk : List K} {fr : List (Nat × AV)} {ch : List (Nat × Chunk)} {nx : Nat}
theorem exF (k : Nat) {A : HProp} {X : Type} {B : X → HProp} (hk : lookc ch k = frm A) (hkn : Nat.blt k nx = true) (hs : ∀ x, stabK stk ((k, frm (B x)) :: ch)) (he : ∀ h, A h → ∃ x, B x h) (hG : ∀ x, Good cx ⟨stk, fr, (k, frm (B x)) :: ch, nx⟩) : Good cx ⟨stk, fr, ch, nx⟩ := by
  refine Good.turns (fr' := fun _ => fr) (ch' := fun x => (k, frm (B x)) :: ch) (nx' := fun _ => nx) hs ?_ hG
  rintro ρ a w hn hF ⟨h, hle, hh⟩
  have hkn' : k < nx := by simpa using hkn
  obtain ⟨p, q, d, lp, lq, hp, hq⟩ := big_out hkn' hh
  rw [hk] at hp
  obtain ⟨_, _, hp⟩ := hp
  obtain ⟨x, hx⟩ := he p hp
  refine ⟨x, ρ, ⟨[], by simp⟩, hn, hF, h, hle, ?_⟩
  rw [lookc_cons]
  exact big_in hkn' _ ⟨p, q, d, lp, lq, ⟨[], rfl, hx⟩, hq⟩
theorem pureF (k : Nat) {A : HProp} {q : Prop} (hk : lookc ch k = frm A) (hkn : Nat.blt k nx = true) (he : ∀ h, A h → q) (hG : q → Good cx ⟨stk, fr, ch, nx⟩) : Good cx ⟨stk, fr, ch, nx⟩ := fun ρ a w H => by
  have hkn' : k < nx := by simpa using hkn
  obtain ⟨h, _, hh⟩ := H.sat.big hkn'
  rw [hk] at hh
  obtain ⟨_, _, hh⟩ := hh
  exact hG (he h hh) ρ a w H
theorem pureC (k : Nat) {cs : List AV} {T : TypeId} {q : Prop} (hk : lookc ch k = .cells cs T) (hkn : Nat.blt k nx = true) (he : ∀ ρ vs, AV.evc ρ cs = some vs → q) (hG : q → Good cx ⟨stk, fr, ch, nx⟩) : Good cx ⟨stk, fr, ch, nx⟩ := fun ρ a w H => by
  have hkn' : k < nx := by simpa using hkn
  obtain ⟨h, _, hh⟩ := H.sat.big hkn'
  rw [hk] at hh
  obtain ⟨b, vs, _, h2, _⟩ := hh
  exact hG (he ρ vs h2) ρ a w H
theorem weakF (k : Nat) {A B : HProp} (hk : lookc ch k = frm A) (hkn : Nat.blt k nx = true) (hs : stabK stk ((k, frm B) :: ch)) (he : ∀ h, A h → B h) (hG : Good cx ⟨stk, fr, (k, frm B) :: ch, nx⟩) : Good cx ⟨stk, fr, ch, nx⟩ :=
  exF k (X := Unit) (B := fun _ => B) hk hkn (fun _ => hs) (fun h hh => ⟨(), he h hh⟩) fun _ => hG
theorem splitF (k : Nat) {A B C : HProp} (hk : lookc ch k = frm A) (hkn : Nat.blt k nx = true) (hs : stabK stk ((nx, frm B) :: (k, frm C) :: ch)) (he : ∀ h, A h → star B C h) (hG : Good cx ⟨stk, fr, (nx, frm B) :: (k, frm C) :: ch, nx + 1⟩) : Good cx ⟨stk, fr, ch, nx⟩ := by
  refine Good.turns (X := Unit) (fr' := fun _ => fr) (ch' := fun _ => (nx, frm B) :: (k, frm C) :: ch) (nx' := fun _ => nx + 1) (fun _ => hs) ?_ (fun _ => hG)
  rintro ρ a w hn hF hS
  have hkn' : k < nx := by simpa using hkn
  refine ⟨(), ρ ++ [0], ⟨[0], rfl⟩, by simp [hn], hF.ext _, hS.mono fun h hh => ?_⟩
  have h1 := big_out hkn' hh
  rw [hk] at h1
  have h2 : star (star B C) (big ρ (upd (lookc ch) k .gone) nx) h := star_mono (fun y hy => he y (by obtain ⟨_, _, hy⟩ := hy; exact hy)) (fun _ y => y) h1
  show star _ (big _ _ nx) h
  rw [big_congr (g' := upd (lookc ch) k (frm C)) (fun i hi => by rw [lookc_cons, lookc_cons]; simp only [upd]; rw [if_neg (by omega)])]
  have e2 : lookc ((nx, frm B) :: (k, frm C) :: ch) nx = frm B := by rw [lookc_cons]; simp [upd]
  rw [e2]
  refine star_mono (fun z hz => ⟨[], rfl, hz⟩) (fun z hz => ?_) (star_assoc h2)
  exact big_in hkn' _ (star_mono (fun u hu => ⟨[], rfl, hu⟩) (fun u hu => big_ext hu) hz)
theorem joinF (k j : Nat) {A B C : HProp} (hk : lookc ch k = frm C) (hj : lookc ch j = frm B) (hkn : Nat.blt k nx = true) (hjn : Nat.blt j nx = true) (hne : Nat.beq j k = false) (hs : stabK stk ((k, frm A) :: (j, .gone) :: ch)) (he : ∀ h, star B C h → A h)
    (hG : Good cx ⟨stk, fr, (k, frm A) :: (j, .gone) :: ch, nx⟩) : Good cx ⟨stk, fr, ch, nx⟩ := by
  refine Good.turns (X := Unit) (fr' := fun _ => fr) (ch' := fun _ => (k, frm A) :: (j, .gone) :: ch) (nx' := fun _ => nx) (fun _ => hs) ?_ (fun _ => hG)
  rintro ρ a w hn hF hS
  have hkn' : k < nx := by simpa using hkn
  have hjn' : j < nx := by simpa using hjn
  have hne' : k ≠ j := fun h => by subst h; simp at hne
  refine ⟨(), ρ, ⟨[], by simp⟩, hn, hF, hS.mono fun h hh => ?_⟩
  have h1 := big_out hjn' hh
  rw [hj] at h1
  have h2 : star ((frm B).hp ρ j) (star ((upd (lookc ch) j .gone k).hp ρ k) (big ρ (upd (upd (lookc ch) j .gone) k .gone) nx)) h := star_mono (fun _ y => y) (fun y hy => big_out hkn' hy) h1
  rw [show upd (lookc ch) j .gone k = frm C by simp [upd, hne', hk]] at h2
  rw [lookc_cons, lookc_cons]
  refine big_in hkn' _ (star_mono (fun y hy => ⟨[], rfl, he y (star_mono (fun z hz => ?_) (fun z hz => ?_) hy)⟩) (fun _ y => y) (star_assoc' h2)) <;>
  · obtain ⟨_, _, hz⟩ := hz; exact hz

/-! ### a struct's block gets a name, and loses it again -/
def ptC (b : Nat) (cs : List AV) (T : TypeId) : HProp := fun h => ∃ vs, AV.evc [] cs = some vs ∧ h b = some (.cells vs.toArray T)
def starL : List HProp → HProp
  | [] => emp
  | A :: r => star A (starL r)
def resCh : Nat → List HProp → List (Nat × Chunk) → List (Nat × Chunk)
  | _, [], base => base
  | i, A :: r, base => (i, frm A) :: resCh (i + 1) r base
theorem lay_res {ρ : List Nat} {base : List (Nat × Chunk)} : ∀ {Rs : List HProp} {nx : Nat} {B : HProp} {h : Hp}, ρ.length = nx → (∀ y, B y → big ρ (lookc base) nx y) → star (starL Rs) B h → ∃ σ : List Nat, σ.length = Rs.length ∧ big (ρ ++ σ) (lookc (resCh nx Rs base)) (nx + Rs.length) h
  | [], nx, B, h, hn, hB, H => by
    obtain ⟨p, q, _, _, lq, _, hq⟩ := H
    exact ⟨[], rfl, by simpa [resCh] using big_le (hB q hq) lq⟩
  | A :: r, nx, B, h, hn, hB, H => by
    have h1 : star (starL r) (star A B) h := star_left_comm (star_assoc H) |> fun x => x
    have hB' : ∀ y, star A B y → big (ρ ++ [0]) (lookc ((nx, frm A) :: base)) (nx + 1) y := fun y hy => by
      show star _ (big _ _ nx) y
      rw [big_congr (g' := lookc base) (fun i hi => by rw [lookc_cons]; simp [upd, Nat.ne_of_lt hi])]
      rw [lookc_cons, upd_same]
      exact star_mono (fun z hz => ⟨[], rfl, hz⟩) (fun z hz => big_ext (hB z hz)) hy
    obtain ⟨σ, hσ, hb⟩ := lay_res (Rs := r) (nx := nx + 1) (base := (nx, frm A) :: base) (by simp [hn]) hB' h1
    refine ⟨0 :: σ, by simp [hσ], ?_⟩
    rw [List.append_assoc, List.singleton_append] at hb
    have e : nx + (A :: r).length = nx + 1 + r.length := by simp; omega
    rw [e]
    refine (congrFun (big_congr fun i hi => ?_) h).mp hb
    show lookc (resCh (nx + 1) r ((nx, frm A) :: base)) i = lookc ((nx, frm A) :: resCh (nx + 1) r base) i
    clear hb h1 H hB' e
    rw [lookc_cons]
    have key : ∀ (l : List HProp) (k : Nat), nx < k → lookc (resCh k l ((nx, frm A) :: base)) i = upd (lookc (resCh k l base)) nx (frm A) i := by
      intro l
      induction l with
      | nil => intro k _; simp only [resCh, lookc_cons]
      | cons a l ih =>
        intro k hk
        simp only [resCh, lookc_cons, upd]
        rw [ih (k + 1) (by omega)]
        by_cases e1 : i = k
        · simp [e1, Nat.ne_of_gt hk]
        · simp [e1, upd]
    exact key r (nx + 1) (Nat.lt_succ_self _)
/-- the block b of the resource k goes by the next name; slot s speaks of it by that name; what else the resource holds goes by the names behind -/
theorem enter (k s : Nat) {A : HProp} {X : Type} {ok : X → Prop} {b : Nat} {cs : X → List AV} {T : TypeId} {Rs : X → List HProp} (m : Nat) (hk : lookc ch k = frm A) (hkn : Nat.blt k nx = true) (hsl : look fr s = some (.v (.pointer (some ⟨b, 0, none⟩)))) (hm : ∀ x, (Rs x).length = m)
    (hA : ∀ h, A h → ∃ x, ok x ∧ star (ptC b (cs x) T) (starL (Rs x)) h)
    (hst : ∀ x, stabK stk (resCh (nx + 2) (Rs x) ((nx, .cells (cs x) T) :: (nx + 1, isB nx b) :: (k, .gone) :: ch)))
    (hG : ∀ x, ok x → Good cx ⟨stk, (s, .ptr nx 0) :: fr, resCh (nx + 2) (Rs x) ((nx, .cells (cs x) T) :: (nx + 1, isB nx b) :: (k, .gone) :: ch), nx + 2 + m⟩) : Good cx ⟨stk, fr, ch, nx⟩ := by
  refine Good.turns (X := { x : X // ok x }) (fr' := fun _ => (s, .ptr nx 0) :: fr) (ch' := fun x => resCh (nx + 2) (Rs x.1) ((nx, .cells (cs x.1) T) :: (nx + 1, isB nx b) :: (k, .gone) :: ch)) (nx' := fun _ => nx + 2 + m) (fun x => hst x.1) ?_ (fun x => hG x.1 x.2)
  rintro ρ a w hn hF ⟨h, hle, hh⟩
  have hkn' : k < nx := by simpa using hkn
  have h1 := big_out hkn' hh
  rw [hk] at h1
  obtain ⟨p, q, d, lp, lq, hp, hq⟩ := h1
  obtain ⟨_, _, hp⟩ := hp
  obtain ⟨x, hok, hx⟩ := hA p hp
  have h2 : star (star (ptC b (cs x) T) (starL (Rs x))) (big ρ (upd (lookc ch) k .gone) nx) h := ⟨p, q, d, lp, lq, hx, hq⟩
  have hget : (ρ ++ [b, 0])[nx]? = some b := by rw [List.getElem?_append_right (by omega)]; simp [hn]
  have h3 : star (starL (Rs x)) (star (ptC b (cs x) T) (big ρ (upd (lookc ch) k .gone) nx)) h := star_left_comm (star_assoc h2)
  obtain ⟨σ, hσ, hb⟩ := lay_res (ρ := ρ ++ [b, 0]) (nx := nx + 2) (base := (nx, .cells (cs x) T) :: (nx + 1, isB nx b) :: (k, .gone) :: ch) (by simp [hn]) (fun y hy => by
    show star _ (star _ (big _ _ nx)) y
    rw [big_congr (g' := upd (lookc ch) k .gone) (fun i hi => by
      rw [lookc_cons, lookc_cons, lookc_cons]; simp only [upd]
      rw [if_neg (by omega), if_neg (by omega)])]
    have e1 : lookc ((nx, .cells (cs x) T) :: (nx + 1, isB nx b) :: (k, .gone) :: ch) (nx + 1) = isB nx b := by rw [lookc_cons, lookc_cons]; simp [upd]
    have e2 : lookc ((nx, .cells (cs x) T) :: (nx + 1, isB nx b) :: (k, .gone) :: ch) nx = .cells (cs x) T := by rw [lookc_cons]; simp [upd]
    rw [e1, e2]
    refine star_comm (star_mono (fun y hy => ?_) (fun y _ => isB_mk hget) (star_emp hy))
    refine star_mono (fun z hz => ?_) (fun z hz => big_ext hz) hy
    obtain ⟨vs, h4, h5⟩ := hz
    exact ⟨b, vs, hget, by have := AV.evc_ext [] (ρ ++ [b, 0]) _ _ h4; simpa using this, h5⟩) h3
  refine ⟨⟨x, hok⟩, ρ ++ [b, 0] ++ σ, ⟨[b, 0] ++ σ, by rw [List.append_assoc]⟩, by simp [hn, hσ, hm x]; omega, ?_, h, hle, ?_⟩
  · have hF' : FrOk (ρ ++ [b, 0] ++ σ) fr a := (hF.ext _).ext _
    intro i v hv
    by_cases e : s = i
    · subst e
      rw [look_cons_same] at hv
      cases hv
      obtain ⟨y, h6, h7⟩ := hF s _ hsl
      simp only [AV.ev, Option.some.injEq] at h6
      subst h6
      exact ⟨_, by simp only [AV.ev]; rw [getElem?_ext hget σ]; rfl, h7⟩
    · rw [look_cons_ne e] at hv
      exact hF' i v hv
  · rw [← hm x]; exact hb
/-- .. and no slot speaks of it -/
theorem enter0 (k : Nat) {A : HProp} {X : Type} {ok : X → Prop} {b : Nat} {cs : X → List AV} {T : TypeId} {Rs : X → List HProp} (m : Nat) (hk : lookc ch k = frm A) (hkn : Nat.blt k nx = true) (hm : ∀ x, (Rs x).length = m)
    (hA : ∀ h, A h → ∃ x, ok x ∧ star (ptC b (cs x) T) (starL (Rs x)) h)
    (hst : ∀ x, stabK stk (resCh (nx + 2) (Rs x) ((nx, .cells (cs x) T) :: (nx + 1, isB nx b) :: (k, .gone) :: ch)))
    (hG : ∀ x, ok x → Good cx ⟨stk, fr, resCh (nx + 2) (Rs x) ((nx, .cells (cs x) T) :: (nx + 1, isB nx b) :: (k, .gone) :: ch), nx + 2 + m⟩) : Good cx ⟨stk, fr, ch, nx⟩ := by
  refine Good.turns (X := { x : X // ok x }) (fr' := fun _ => fr) (ch' := fun x => resCh (nx + 2) (Rs x.1) ((nx, .cells (cs x.1) T) :: (nx + 1, isB nx b) :: (k, .gone) :: ch)) (nx' := fun _ => nx + 2 + m) (fun x => hst x.1) ?_ (fun x => hG x.1 x.2)
  rintro ρ a w hn hF ⟨h, hle, hh⟩
  have hkn' : k < nx := by simpa using hkn
  have h1 := big_out hkn' hh
  rw [hk] at h1
  obtain ⟨p, q, d, lp, lq, hp, hq⟩ := h1
  obtain ⟨_, _, hp⟩ := hp
  obtain ⟨x, hok, hx⟩ := hA p hp
  have h2 : star (star (ptC b (cs x) T) (starL (Rs x))) (big ρ (upd (lookc ch) k .gone) nx) h := ⟨p, q, d, lp, lq, hx, hq⟩
  have hget : (ρ ++ [b, 0])[nx]? = some b := by rw [List.getElem?_append_right (by omega)]; simp [hn]
  have h3 : star (starL (Rs x)) (star (ptC b (cs x) T) (big ρ (upd (lookc ch) k .gone) nx)) h := star_left_comm (star_assoc h2)
  obtain ⟨σ, hσ, hb⟩ := lay_res (ρ := ρ ++ [b, 0]) (nx := nx + 2) (base := (nx, .cells (cs x) T) :: (nx + 1, isB nx b) :: (k, .gone) :: ch) (by simp [hn]) (fun y hy => by
    show star _ (star _ (big _ _ nx)) y
    rw [big_congr (g' := upd (lookc ch) k .gone) (fun i hi => by
      rw [lookc_cons, lookc_cons, lookc_cons]; simp only [upd]
      rw [if_neg (by omega), if_neg (by omega)])]
    have e1 : lookc ((nx, .cells (cs x) T) :: (nx + 1, isB nx b) :: (k, .gone) :: ch) (nx + 1) = isB nx b := by rw [lookc_cons, lookc_cons]; simp [upd]
    have e2 : lookc ((nx, .cells (cs x) T) :: (nx + 1, isB nx b) :: (k, .gone) :: ch) nx = .cells (cs x) T := by rw [lookc_cons]; simp [upd]
    rw [e1, e2]
    refine star_comm (star_mono (fun y hy => ?_) (fun y _ => isB_mk hget) (star_emp hy))
    refine star_mono (fun z hz => ?_) (fun z hz => big_ext hz) hy
    obtain ⟨vs, h4, h5⟩ := hz
    exact ⟨b, vs, hget, by have := AV.evc_ext [] (ρ ++ [b, 0]) _ _ h4; simpa using this, h5⟩) h3
  refine ⟨⟨x, hok⟩, ρ ++ [b, 0] ++ σ, ⟨[b, 0] ++ σ, by rw [List.append_assoc]⟩, by simp [hn, hσ, hm x]; omega, ?_, h, hle, ?_⟩
  · exact (hF.ext _).ext _
  · rw [← hm x]; exact hb
def frmsAre (ch : List (Nat × Chunk)) : List Nat → List HProp → Prop
  | [], [] => True
  | k :: r, A :: t => lookc ch k = frm A ∧ frmsAre ch r t
  | _, _ => False
theorem pick_res {ρ : List Nat} {n : Nat} : ∀ {ks : List Nat} {Rs : List HProp} {g : Nat → Chunk} {h : Hp}, (∀ i, i < ks.length → ∀ (hi : i < Rs.length) k, ks[i]? = some k → g k = frm Rs[i]) → ks.length = Rs.length → (∀ k ∈ ks, k < n) → ks.Nodup → big ρ g n h →
    star (starL Rs) (big ρ (applyU (ks.map fun c => (c, .gone)) g) n) h
  | [], [], g, h, _, _, _, _, H => star_comm (star_emp H)
  | k :: r, A :: t, g, h, hg, hl, hn, hd, H => by
    have hd' := List.nodup_cons.1 hd
    have h1 := big_out (hn k (by simp)) H
    have h2 := star_mono (fun _ y => y) (fun y hy => pick_res (ks := r) (Rs := t) (g := upd g k .gone) (fun i hi hi2 c hc => by
      have := hg (i + 1) (by simp; omega) (by simp; omega) c (by simpa using hc)
      have hne : c ≠ k := fun e => hd'.1 (e ▸ List.mem_of_getElem? hc)
      simp only [upd, if_neg hne]
      simpa using this) (by simpa using hl) (fun c hc => hn c (by simp [hc])) hd'.2 hy) h1
    have e0 := hg 0 (by simp) (by simp) k (by simp)
    refine star_assoc' (star_mono (fun y hy => ?_) (fun y hy => star_mono (fun _ z => z) (fun z hz => ?_) hy) h2)
    · rw [e0] at hy; obtain ⟨_, _, hy⟩ := hy; exact hy
    · have : ∀ (l : List Nat), k ∉ l → applyU (l.map fun c => (c, Chunk.gone)) (upd g k .gone) = upd (applyU (l.map fun c => (c, .gone)) g) k .gone := by
        intro l
        induction l with
        | nil => intro _; rfl
        | cons c l ih =>
          intro hc
          simp only [List.mem_cons, not_or] at hc
          simp only [List.map_cons, applyU]
          rw [ih hc.2, upd_comm _ hc.1]
      rw [this r hd'.1] at hz
      exact hz
  | [], _ :: _, _, _, _, hl, _, _, _ => by simp at hl
  | _ :: _, [], _, _, _, hl, _, _, _ => by simp at hl
theorem frmsAre_get {ch : List (Nat × Chunk)} : ∀ {ks : List Nat} {Rs : List HProp}, frmsAre ch ks Rs → ks.length = Rs.length ∧ ∀ i, i < ks.length → ∀ (hi : i < Rs.length) k, ks[i]? = some k → lookc ch k = frm Rs[i]
  | [], [], _ => ⟨rfl, fun i hi => absurd hi (by simp)⟩
  | k :: r, A :: t, H => by
    obtain ⟨h1, h2⟩ := frmsAre_get H.2
    refine ⟨by simp [h1], fun i hi hi2 c hc => ?_⟩
    cases i with
    | zero => simp at hc; subst hc; exact H.1
    | succ i => simp at hc; simpa using h2 i (by simpa using hi) (by simpa using hi2) c hc
  | [], _ :: _, H => H.elim
  | _ :: _, [], H => H.elim
theorem leave (k c e : Nat) (ks : List Nat) {A : HProp} {b : Nat} {cs : List AV} {T : TypeId} {Rs : List HProp} (hc : lookc ch c = .cells cs T) (he : lookc ch e = isB c b) (hks : frmsAre ch ks Rs) (hcl : ∃ vs, AV.evc [] cs = some vs) (hkn : Nat.blt k nx = true) (hcn : Nat.blt c nx = true) (hen : Nat.blt e nx = true)
    (hlt : (ks.all fun j => Nat.blt j nx) = true) (hnd : nodupB (c :: ks) = true) (hs : stabK stk ((k, frm A) :: (ks.map (fun j => (j, .gone)) ++ (c, .gone) :: ch))) (hA : ∀ h, star (ptC b cs T) (starL Rs) h → A h) (hG : Good cx ⟨stk, fr, (k, frm A) :: (ks.map (fun j => (j, .gone)) ++ (c, .gone) :: ch), nx⟩) : Good cx ⟨stk, fr, ch, nx⟩ := by
  refine Good.turns (X := Unit) (fr' := fun _ => fr) (ch' := fun _ => (k, frm A) :: (ks.map (fun j => (j, .gone)) ++ (c, .gone) :: ch)) (nx' := fun _ => nx) (fun _ => hs) ?_ (fun _ => hG)
  rintro ρ a w hn hF hS
  have hkn' : k < nx := by simpa using hkn
  have hcn' : c < nx := by simpa using hcn
  have hen' : e < nx := by simpa using hen
  have hlt' : ∀ j ∈ ks, j < nx := fun j hj => by have := List.all_eq_true.1 hlt j hj; simpa using this
  have hnd' := List.nodup_cons.1 (nodupB_nodup hnd)
  obtain ⟨h0, _, hh0⟩ := hS.big hen'
  rw [he] at hh0
  have hb := isB_get hh0
  obtain ⟨hl, hget⟩ := frmsAre_get hks
  refine ⟨(), ρ, ⟨[], by simp⟩, hn, hF, hS.mono fun h hh => ?_⟩
  have h1 := big_out hcn' hh
  rw [hc] at h1
  have h2 := star_mono (fun _ y => y) (fun y hy => pick_res (ks := ks) (Rs := Rs) (g := upd (lookc ch) c .gone) (fun i hi hi2 j hj => by
    have hne : j ≠ c := fun e => hnd'.1 (e ▸ List.mem_of_getElem? hj)
    simp only [upd, if_neg hne]
    exact hget i hi hi2 j hj) hl hlt' hnd'.2 hy) h1
  rw [lookc_cons, lookc_append, lookc_cons]
  refine big_in hkn' _ (star_mono (fun y hy => ⟨[], rfl, hA y (star_mono (fun z hz => ?_) (fun _ z => z) hy)⟩) (fun y hy => big_drop hy) (star_assoc' h2))
  obtain ⟨b', vs, h3, h4, h5⟩ := hz
  rw [hb] at h3; cases h3
  obtain ⟨vs', hcl⟩ := hcl
  have h6 := AV.evc_ext [] ρ _ _ hcl
  rw [List.nil_append, h4] at h6
  cases h6
  exact ⟨vs, hcl, h5⟩
/-- a row by another word -/
theorem recells (k : Nat) {cs cs' : List AV} {T : TypeId} (hk : lookc ch k = .cells cs T) (he : ∀ ρ, AV.evc ρ cs = AV.evc ρ cs') (hkn : Nat.blt k nx = true) (hst : stabK stk ((k, .cells cs' T) :: ch)) (hG : Good cx ⟨stk, fr, (k, .cells cs' T) :: ch, nx⟩) : Good cx ⟨stk, fr, ch, nx⟩ :=
  rechunk k (.cells cs' T) hkn hst (fun ρ h hh => by
    rw [hk] at hh
    obtain ⟨b, vs, h1, h2, h3⟩ := hh
    exact ⟨b, vs, h1, by rw [← he]; exact h2, h3⟩) hG
/-- an empty resource -/
theorem newE (hst : stabK stk ((nx, frm emp) :: ch)) (hG : Good cx ⟨stk, fr, (nx, frm emp) :: ch, nx + 1⟩) : Good cx ⟨stk, fr, ch, nx⟩ := by
  refine Good.turns (X := Unit) (fr' := fun _ => fr) (ch' := fun _ => (nx, frm emp) :: ch) (nx' := fun _ => nx + 1) (fun _ => hst) ?_ (fun _ => hG)
  rintro ρ a w hn hF hS
  refine ⟨(), ρ ++ [0], ⟨[0], rfl⟩, by simp [hn], hF.ext _, hS.mono fun h hh => ?_⟩
  simp only [big, lookc_cons, upd_same]
  rw [big_congr (g' := lookc ch) (fun i hi => by simp [upd, Nat.ne_of_lt hi])]
  exact star_comm (star_mono (fun _ y => big_ext y) (fun y _ => ⟨[], rfl, trivial⟩) (star_emp hh))
/-- a named row becomes a slice that one owns, known by its number -/
theorem own_named (s c : Nat) {n cap sz : Nat} {cs : List AV} {T : TypeId} {vs : List Value} (hsl : look fr s = some (.slc c 0 n cap)) (hc : lookc ch c = .cells cs T) (hcs : AV.evc [] cs = some vs) (hcn : Nat.blt c nx = true) (hlen : vs.length = cap * sz) (hnc : n ≤ cap) (hcm : cap ≤ maxLen)
    (hst : ∀ x, stabK stk ((c, x) :: ch)) (hG : ∀ b, Good cx ⟨stk, (s, .v (.slice (some ⟨b, 0, none⟩) n cap)) :: fr, (c, frm (ownH T sz (some ⟨b, 0, none⟩) n cap (vs.take (n * sz)))) :: ch, nx⟩) : Good cx ⟨stk, fr, ch, nx⟩ := by
  refine Good.turns (fr' := fun b => (s, .v (.slice (some ⟨b, 0, none⟩) n cap)) :: fr) (ch' := fun b => (c, frm (ownH T sz (some ⟨b, 0, none⟩) n cap (vs.take (n * sz)))) :: ch) (nx' := fun _ => nx) (fun x => hst _) ?_ hG
  rintro ρ a w hn hF ⟨h, hle, hh⟩
  have hcn' : c < nx := by simpa using hcn
  have hb : ρ[c]? = some ρ[c] := List.getElem?_eq_getElem (by omega)
  refine ⟨ρ[c], ρ, ⟨[], by simp⟩, hn, ?_, h, hle, ?_⟩
  · intro i x hx
    by_cases e : s = i
    · subst e
      rw [look_cons_same] at hx
      cases hx
      obtain ⟨y, h1, h2⟩ := hF s _ hsl
      simp only [AV.ev, hb, Option.map_some, Option.some.injEq] at h1
      subst h1
      exact ⟨_, rfl, h2⟩
    · rw [look_cons_ne e] at hx
      exact hF i x hx
  · rw [lookc_cons]
    refine big_in hcn' _ (star_mono (fun y hy => ?_) (fun _ y => y) (big_out hcn' hh))
    rw [hc] at hy
    obtain ⟨b', us, h1, h2, h3⟩ := hy
    rw [hb] at h1; cases h1
    have h4 := AV.evc_ext [] ρ _ _ hcs
    rw [List.nil_append, h2] at h4
    cases h4
    refine ⟨[], rfl, ?_, .inr ⟨_, vs.toArray, rfl, h3, hnc, hcm, by simpa using hlen, by simp⟩⟩
    rw [List.length_take, hlen]
    exact Nat.min_eq_left (Nat.mul_le_mul_right _ hnc)
/-- a pointer to a named block goes by the block's number -/
theorem by_number (s c : Nat) (hsl : look fr s = some (.ptr c 0)) (hcn : Nat.blt c nx = true) (hst : ∀ x, stabK stk ((nx, x) :: ch)) (hG : ∀ b, Good cx ⟨stk, (s, .v (.pointer (some ⟨b, 0, none⟩))) :: fr, (nx, isB c b) :: ch, nx + 1⟩) : Good cx ⟨stk, fr, ch, nx⟩ :=
  name_is c hcn (fun _ => hst _) fun b => recast (v' := .v (.pointer (some ⟨b, 0, none⟩))) s nx (c := c) (b := b) (by rw [lookc_cons, upd_same]) (by simp) hsl (hst _) (fun ρ hb => by simp [AV.ev, hb]) (hG b)
end
end Sx
