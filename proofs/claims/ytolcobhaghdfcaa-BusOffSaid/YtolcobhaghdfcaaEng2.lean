/- The abstract machine's moves are the program's: the whole of it; and a function's contract out of the machine's run. -/
import Derived.Test.YtolcobhaghdfcaaEng
namespace Sx
open Go

theorem lookc_mem : ∀ (s : List (Nat × Chunk)) (c : Nat), lookc s c = .gone ∨ (c, lookc s c) ∈ s
  | [], _ => .inl rfl
  | (d, x) :: r, c => by
    by_cases e : d = c
    · subst e; right; simp [lookc]
    · have : lookc ((d, x) :: r) c = lookc r c := by rw [lookc_cons]; simp [upd, Ne.symm e]
      rw [this]
      rcases lookc_mem r c with h | h
      · exact .inl h
      · exact .inr (List.mem_cons_of_mem _ h)
theorem hp_back {ρ0 σ : List Nat} {c : Nat} {x : Chunk} (hp : plainCh x = true) (hc : c < ρ0.length) {h0 : Hp} (h1 : x.hp ρ0 c h0) {h : Hp} (h2 : x.hp (ρ0 ++ σ) c h) : x.hp ρ0 c h := by
  have hget : (ρ0 ++ σ)[c]? = ρ0[c]? := List.getElem?_append_left hc
  cases x with
  | cells cs T =>
    obtain ⟨b, vs, h3, h4, h5⟩ := h1
    obtain ⟨b', vs', h6, h7, h8⟩ := h2
    have e1 := AV.evc_ext ρ0 σ _ _ h4
    rw [h7] at e1
    cases e1
    rw [hget] at h6
    exact ⟨b', vs, h6, h4, h8⟩
  | sym vs T => obtain ⟨b', h6, h8⟩ := h2; rw [hget] at h6; exact ⟨b', h6, h8⟩
  | obj o => obtain ⟨b', h6, h8⟩ := h2; rw [hget] at h6; exact ⟨b', h6, h8⟩
  | pred ns A =>
    cases ns with
    | nil => obtain ⟨bs, h3, h4⟩ := h2; exact ⟨bs, h3, h4⟩
    | cons n r => simp [plainCh] at hp
  | gone => trivial
theorem nokey_spec : ∀ {c : Nat} {s : List (Nat × Chunk)}, nokey c s = true → ∀ p ∈ s, p.1 ≠ c
  | c, (d, x) :: r, h, p, hp => by
    simp only [nokey] at h
    cases e : Nat.beq d c
    · rw [e] at h
      rcases List.mem_cons.1 hp with rfl | hp
      · intro h2; simp only at h2; subst h2; simp at e
      · exact nokey_spec h p hp
    · rw [e] at h; cases h
  | _, [], _, _, hp => by cases hp
theorem stab_cons {ch : List (Nat × Chunk)} {c : Nat} {x : Chunk} : ∀ {s : List (Nat × Chunk)}, stab s ch → (∀ p ∈ s, p.1 ≠ c) → stab s ((c, x) :: ch)
  | [], _, _ => trivial
  | (d, y) :: r, h, hne => by
    refine ⟨?_, stab_cons h.2 fun p hp => hne p (List.mem_cons_of_mem _ hp)⟩
    rw [lookc_cons]
    have := hne (d, y) (by simp)
    simp [upd, this, h.1]
theorem SW_of {cx : Cx} {ρ : List Nat} {st : St} {a : Act} {w : World} {ρ0 σ : List Nat} {sch : List (Nat × Chunk)} (hsat : Sat (big ρ (lookc st.ch) st.nx) w) (hlen : ρ.length = st.nx) (hρ : ρ = ρ0 ++ σ)
    (hst : stab sch st.ch) (hok : SchOk ρ0 sch) : SW ρ0 sch w := fun p hp => by
  obtain ⟨h1, h2, h0, h3⟩ := hok p hp
  have hlt : p.1 < st.nx := by rw [← hlen, hρ]; simp; omega
  obtain ⟨h, hl, hh⟩ := hsat.big hlt
  rw [stab_mem hst p hp, hρ] at hh
  exact ⟨h, hl, hp_back h2 h1 h3 hh⟩

section
variable {cx : Cx} {fr : List (Nat × AV)} {ch : List (Nat × Chunk)} {nx : Nat} {k : List K} {g : Option (Nat × Bool)} {o : AOp} {ρ0 : List Nat} {sch : List (Nat × Chunk)} {ops : Array Oper} {r : List (Nat × Kd × GOp)} {i : Nat} {lv : Bool}
theorem dq_step (ht : tbOk cx.P cx.tb = true) (hg : gres fr g = .run) {d : Nat} {v : AV} {q : Option Prop} (hs : step fr sch nx o = .ok d v q) (hq : ∀ p, q = some p → p)
    (hG : Good cx ⟨.dops true ρ0 sch ops r :: k, (d, v) :: fr, ch, nx⟩) : Good cx ⟨.dops true ρ0 sch ops ((i, .quiet, (g, o)) :: r) :: k, fr, ch, nx⟩ := by
  intro ρ a w H hall
  obtain ⟨⟨σ, hρ⟩, hst, hok⟩ := H.dr
  obtain ⟨x, hx, hcx⟩ := hall _ List.mem_cons_self
  dsimp only at hx hcx
  obtain ⟨h1, h2, _⟩ := compOp_spec hcx
  have each : ∀ w', SW ρ0 sch w' → Each ρ sch nx w' := fun w' hw c _ => by
    rcases lookc_mem sch c with h | h
    · exact ⟨fun _ => none, (fun _ _ e => by cases e), by rw [h]; trivial⟩
    · obtain ⟨hh, hl, hp⟩ := hw _ h
      exact ⟨hh, hl, by rw [hρ]; exact Chunk.hp_ext hp⟩
  have run : ∀ w', SW ρ0 sch w' → x.dst = some d ∧ ∃ y, v.ev ρ = some y ∧ (execOp a.eval x).run cx.P w' = .ok (.value y) w' := fun w' hw => by
    have := step_ok (ch := sch) (nx := nx) ht H.fr H.len (each w' hw) h1
    simp only at this
    rw [hs] at this
    exact this hq
  have hSW := SW_of (cx := cx) (a := a) H.sat H.len hρ hst hok
  obtain ⟨hd, y, hy, _⟩ := run w hSW
  refine ⟨x, y, hx, hSW, .inl ⟨(gres_run H.fr hcx).1 hg, fun w' hw => ?_⟩, ?_⟩
  · obtain ⟨_, y', hy', hrun⟩ := run w' hw
    rw [hy] at hy'; cases hy'
    exact hrun
  · rw [hd]
    exact hG ρ _ w ⟨by rw [put_size]; exact H.N, by rw [put_defers]; exact H.df, H.len, H.fr.put H.N (h2 d hd) hy, H.sat, H.env, ⟨σ, hρ⟩, hst, hok⟩ (fun z hz => hall z (List.mem_cons_of_mem _ hz))
/-- a quiet operation that the machine does not reckon -/
theorem dq_val (hg : gres fr g = .run) {d : Nat} {v : AV}
    (hrun : ∀ ρ (a : Act) w (x : Oper), FrOk ρ fr a → ρ.length = nx → Each ρ sch nx w → opWith cx.tb x.dst x.type x.op = some o → x.dst = some d ∧ ∃ y, v.ev ρ = some y ∧ (execOp a.eval x).run cx.P w = .ok (.value y) w)
    (hG : Good cx ⟨.dops true ρ0 sch ops r :: k, (d, v) :: fr, ch, nx⟩) : Good cx ⟨.dops true ρ0 sch ops ((i, .quiet, (g, o)) :: r) :: k, fr, ch, nx⟩ := by
  intro ρ a w H hall
  obtain ⟨⟨σ, hρ⟩, hst, hok⟩ := H.dr
  obtain ⟨x, hx, hcx⟩ := hall _ List.mem_cons_self
  dsimp only at hx hcx
  obtain ⟨h1, h2, _⟩ := compOp_spec hcx
  have each : ∀ w', SW ρ0 sch w' → Each ρ sch nx w' := fun w' hw c _ => by
    rcases lookc_mem sch c with h | h
    · exact ⟨fun _ => none, (fun _ _ e => by cases e), by rw [h]; trivial⟩
    · obtain ⟨hh, hl, hp⟩ := hw _ h
      exact ⟨hh, hl, by rw [hρ]; exact Chunk.hp_ext hp⟩
  have hSW := SW_of (cx := cx) (a := a) H.sat H.len hρ hst hok
  obtain ⟨hd, y, hy, _⟩ := hrun ρ a w x H.fr H.len (each w hSW) h1
  refine ⟨x, y, hx, hSW, .inl ⟨(gres_run H.fr hcx).1 hg, fun w' hw => ?_⟩, ?_⟩
  · obtain ⟨_, y', hy', hrun⟩ := hrun ρ a w' x H.fr H.len (each w' hw) h1
    rw [hy] at hy'; cases hy'
    exact hrun
  · rw [hd]
    exact hG ρ _ w ⟨by rw [put_size]; exact H.N, by rw [put_defers]; exact H.df, H.len, H.fr.put H.N (h2 d hd) hy, H.sat, H.env, ⟨σ, hρ⟩, hst, hok⟩ (fun z hz => hall z (List.mem_cons_of_mem _ hz))
theorem dq_skip (hg : gres fr g = .skip) (hG : Good cx ⟨.dops true ρ0 sch ops r :: k, skipFr o fr, ch, nx⟩) : Good cx ⟨.dops true ρ0 sch ops ((i, .quiet, (g, o)) :: r) :: k, fr, ch, nx⟩ := by
  intro ρ a w H hall
  obtain ⟨x, hx, hcx⟩ := hall _ List.mem_cons_self
  dsimp only at hx hcx
  obtain ⟨h1, h2, _⟩ := compOp_spec hcx
  obtain ⟨⟨σ, hρ⟩, hst, hok⟩ := H.dr
  refine ⟨x, undef, hx, SW_of (cx := cx) (a := a) H.sat H.len hρ hst hok, .inr ⟨(gres_run H.fr hcx).2 hg, rfl⟩, ?_⟩
  refine hG ρ _ w ⟨by rw [put_size]; exact H.N, by rw [put_defers]; exact H.df, H.len, ?_, H.sat, H.env, H.dr⟩ (fun z hz => hall z (List.mem_cons_of_mem _ hz))
  rw [opWith_dst h1]
  unfold skipFr
  cases hd' : dstOf o with
  | none => exact H.fr
  | some d => exact H.fr.put H.N (h2 d (by rw [opWith_dst h1, hd'])) rfl
theorem dl_skip (hg : gres fr g = .skip) (hG : Good cx ⟨.dops true ρ0 sch ops r :: k, skipFr o fr, ch, nx⟩) : Good cx ⟨.dops true ρ0 sch ops ((i, .loud, (g, o)) :: r) :: k, fr, ch, nx⟩ := by
  intro ρ a w H hall
  obtain ⟨x, hx, hcx⟩ := hall _ List.mem_cons_self
  dsimp only at hx hcx
  obtain ⟨h1, h2, _⟩ := compOp_spec hcx
  obtain ⟨⟨σ, hρ⟩, hst, hok⟩ := H.dr
  simp only [wpOrd, wpOp, hx, (gres_run H.fr hcx).2 hg, Bool.false_eq_true, if_false]
  refine ⟨SW_of (cx := cx) (a := a) H.sat H.len hρ hst hok, ?_⟩
  refine hG ρ _ w ⟨by rw [put_size]; exact H.N, by rw [put_defers]; exact H.df, H.len, ?_, H.sat, H.env, H.dr⟩ (fun z hz => hall z (List.mem_cons_of_mem _ hz))
  rw [opWith_dst h1]
  unfold skipFr
  cases hd' : dstOf o with
  | none => exact H.fr
  | some d => exact H.fr.put H.N (h2 d (by rw [opWith_dst h1, hd'])) rfl
theorem dl_step (ht : tbOk cx.P cx.tb = true) (hg : gres fr g = .run)
    (h : match step fr ch nx o with
      | .ok d v q => (∀ p, q = some p → p) ∧ Good cx ⟨.dops true ρ0 sch ops r :: k, (d, v) :: fr, ch, nx⟩
      | .new d v c => Good cx ⟨.dops true ρ0 sch ops r :: k, (d, v) :: fr, (nx, c) :: ch, nx + 1⟩
      | .st c x q => (∀ p, q = some p → p) ∧ nokey c sch = true ∧ Good cx ⟨.dops true ρ0 sch ops r :: k, fr, (c, x) :: ch, nx⟩
      | .br _ _ => False
      | .call d f args => EvOk cx (.call True d f args (.dops true ρ0 sch ops r :: k) fr ch nx)
      | .ev => EvOk cx (.op True o (.dops true ρ0 sch ops r :: k) fr ch nx)) : Good cx ⟨.dops true ρ0 sch ops ((i, .loud, (g, o)) :: r) :: k, fr, ch, nx⟩ := by
  intro ρ a w H hall
  obtain ⟨x, hx, hcx⟩ := hall _ List.mem_cons_self
  dsimp only at hx hcx
  obtain ⟨hxo, hN, _⟩ := compOp_spec hcx
  obtain ⟨⟨σ, hρ⟩, hst, hok⟩ := H.dr
  have hall' : ∀ y ∈ r, ∃ o, ops[y.1]? = some o ∧ compOp cx.tb cx.N ops o = some y.2.2 := fun z hz => hall z (List.mem_cons_of_mem _ hz)
  simp only [wpOrd, wpOp, hx, (gres_run H.fr hcx).1 hg, if_true]
  left
  have hs := step_ok ht H.fr H.len H.sat.each hxo
  revert h hs
  cases step fr ch nx o with
  | ok d v q =>
    rintro ⟨hq, hG⟩ hs
    obtain ⟨hd, y, hv, hrun⟩ := hs hq
    simp only [Oper.wp, hrun, Oper.upon, hd]
    exact ⟨SW_of (cx := cx) (a := a) H.sat H.len hρ hst hok, hG ρ _ w ⟨by rw [put_size]; exact H.N, by rw [put_defers]; exact H.df, H.len, H.fr.put H.N (hN d hd) hv, H.sat, H.env, ⟨σ, hρ⟩, hst, hok⟩ hall'⟩
  | new d v c =>
    rintro hG ⟨hd, ob, y, hrun, hv, hc⟩
    simp only [Oper.wp, hrun, Oper.upon, hd]
    have hst' : stab sch ((nx, c) :: ch) := stab_cons hst fun p hp => by
      have h1 := (hok p hp).1
      have h2 := H.len
      have h3 : ρ.length = ρ0.length + σ.length := by rw [hρ]; simp
      simp only at h2
      omega
    have hsat := Sat.newc H hc
    exact ⟨SW_of (cx := cx) (st := ⟨[], fr, (nx, c) :: ch, nx + 1⟩) (a := a) hsat (by simp [H.len]) (by rw [hρ, List.append_assoc]) hst' hok,
      hG (ρ ++ [w.heap.size]) _ _ ⟨by rw [put_size]; exact H.N, by rw [put_defers]; exact H.df, by simp [H.len], (H.fr.ext _).put H.N (hN d hd) hv, hsat, (H.env.trans (Env.new w ob)).ext _,
        ⟨σ ++ [w.heap.size], by rw [hρ, List.append_assoc]⟩, hst', hok⟩ hall'⟩
  | st c x' q =>
    rintro ⟨hq, hk, hG⟩ hs
    obtain ⟨hd, hc, b, o', hold, hrun, hnew⟩ := hs hq
    simp only [Oper.wp, hrun, Oper.upon, hd]
    have hst' : stab sch ((c, x') :: ch) := stab_cons hst (nokey_spec hk)
    have hsat := Sat.turn H hc hold hnew
    exact ⟨SW_of (cx := cx) (st := ⟨[], fr, (c, x') :: ch, nx⟩) (a := a) hsat H.len hρ hst' hok, hG ρ _ _ ⟨H.N, H.df, H.len, H.fr, hsat, H.env.trans (Env.putBlock w b o'), ⟨σ, hρ⟩, hst', hok⟩ hall'⟩
  | br s b => intro h; exact h.elim
  | call d f args =>
    rintro ⟨_, hG⟩ ⟨hd, vs, hvs, hrun⟩
    rcases hG ρ a w ⟨H.N, H.df, H.len, H.fr, H.sat, H.env, ⟨σ, hρ⟩, hst, hok⟩ (hN d hd) vs hvs with ⟨h1, h2⟩ | ⟨v, w', h1, h2⟩
    · simp only [Oper.wp, hrun, h1, Oper.upon, hd]
      refine h2.mono fun e w' he => ?_
      obtain ⟨v, rfl, hsw, hR⟩ := he
      exact ⟨hsw, hR hall'⟩
    · simp only [Oper.wp, hrun, h1, Oper.upon, hd]
      exact ⟨h2.1, h2.2 hall'⟩
  | ev =>
    rintro ⟨_, hG⟩ _
    rcases hG ρ a w ⟨H.N, H.df, H.len, H.fr, H.sat, H.env, ⟨σ, hρ⟩, hst, hok⟩ x (by
      cases hd : x.dst with
      | none => trivial
      | some d => exact hN d hd) hxo with hh | hh
    · exact wp_noQ (fun a' w' hh => ⟨hh.1, hh.2 hall'⟩) hh
    · exact absurd hh.1 (by simp [nod])
theorem da_skip (hg : gres fr g = .skip) (hG : Good cx ⟨.dops false ρ0 sch ops r :: k, skipFr o fr, ch, nx⟩) : Good cx ⟨.dops lv ρ0 sch ops ((i, .last, (g, o)) :: r) :: k, fr, ch, nx⟩ := by
  intro ρ a w H hall
  obtain ⟨x, hx, hcx⟩ := hall _ List.mem_cons_self
  dsimp only at hx hcx
  obtain ⟨h1, h2, _⟩ := compOp_spec hcx
  simp only [wpOrd, wpOp, hx, (gres_run H.fr hcx).2 hg, Bool.false_eq_true, if_false]
  refine hG ρ _ w ⟨by rw [put_size]; exact H.N, by rw [put_defers]; exact H.df, H.len, ?_, H.sat, H.env, trivial⟩ (fun z hz => hall z (List.mem_cons_of_mem _ hz))
  rw [opWith_dst h1]
  unfold skipFr
  cases hd' : dstOf o with
  | none => exact H.fr
  | some d => exact H.fr.put H.N (h2 d (by rw [opWith_dst h1, hd'])) rfl
theorem da_step (ht : tbOk cx.P cx.tb = true) (hg : gres fr g = .run)
    (h : match step fr ch nx o with
      | .ok d v q => (∀ p, q = some p → p) ∧ Good cx ⟨.dops false ρ0 sch ops r :: k, (d, v) :: fr, ch, nx⟩
      | .new d v c => Good cx ⟨.dops false ρ0 sch ops r :: k, (d, v) :: fr, (nx, c) :: ch, nx + 1⟩
      | .st c x q => (∀ p, q = some p → p) ∧ Good cx ⟨.dops false ρ0 sch ops r :: k, fr, (c, x) :: ch, nx⟩
      | .br _ _ => False
      | .call d f args => EvOk cx (.call True d f args (.dops false ρ0 sch ops r :: k) fr ch nx)
      | .ev => EvOk cx (.op True o (.dops false ρ0 sch ops r :: k) fr ch nx)) : Good cx ⟨.dops lv ρ0 sch ops ((i, .last, (g, o)) :: r) :: k, fr, ch, nx⟩ := by
  intro ρ a w H hall
  obtain ⟨x, hx, hcx⟩ := hall _ List.mem_cons_self
  dsimp only at hx hcx
  obtain ⟨hxo, hN, _⟩ := compOp_spec hcx
  have hall' : ∀ y ∈ r, ∃ o, ops[y.1]? = some o ∧ compOp cx.tb cx.N ops o = some y.2.2 := fun z hz => hall z (List.mem_cons_of_mem _ hz)
  simp only [wpOrd, wpOp, hx, (gres_run H.fr hcx).1 hg, if_true]
  left
  have hs := step_ok ht H.fr H.len H.sat.each hxo
  revert h hs
  cases step fr ch nx o with
  | ok d v q =>
    rintro ⟨hq, hG⟩ hs
    obtain ⟨hd, y, hv, hrun⟩ := hs hq
    simp only [Oper.wp, hrun, Oper.upon, hd]
    exact hG ρ _ w ⟨by rw [put_size]; exact H.N, by rw [put_defers]; exact H.df, H.len, H.fr.put H.N (hN d hd) hv, H.sat, H.env, trivial⟩ hall'
  | new d v c =>
    rintro hG ⟨hd, ob, y, hrun, hv, hc⟩
    simp only [Oper.wp, hrun, Oper.upon, hd]
    exact hG (ρ ++ [w.heap.size]) _ _ ⟨by rw [put_size]; exact H.N, by rw [put_defers]; exact H.df, by simp [H.len], (H.fr.ext _).put H.N (hN d hd) hv, Sat.newc H hc, (H.env.trans (Env.new w ob)).ext _, trivial⟩ hall'
  | st c x' q =>
    rintro ⟨hq, hG⟩ hs
    obtain ⟨hd, hc, b, o', hold, hrun, hnew⟩ := hs hq
    simp only [Oper.wp, hrun, Oper.upon, hd]
    exact hG ρ _ _ ⟨H.N, H.df, H.len, H.fr, Sat.turn H hc hold hnew, H.env.trans (Env.putBlock w b o'), trivial⟩ hall'
  | br s b => intro h; exact h.elim
  | call d f args =>
    rintro ⟨_, hG⟩ ⟨hd, vs, hvs, hrun⟩
    rcases hG ρ a w ⟨H.N, H.df, H.len, H.fr, H.sat, H.env, trivial⟩ (hN d hd) vs hvs with ⟨h1, h2⟩ | ⟨v, w', h1, h2⟩
    · simp only [Oper.wp, hrun, h1, Oper.upon, hd]
      refine h2.mono fun e w' he => ?_
      obtain ⟨v, rfl, _, hR⟩ := he
      exact hR hall'
    · simp only [Oper.wp, hrun, h1, Oper.upon, hd]
      exact h2.2 hall'
  | ev =>
    rintro ⟨_, hG⟩ _
    rcases hG ρ a w ⟨H.N, H.df, H.len, H.fr, H.sat, H.env, trivial⟩ x (by
      cases hd : x.dst with
      | none => trivial
      | some d => exact hN d hd) hxo with hh | hh
    · exact wp_noQ (fun a' w' hh => hh.2 hall') hh
    · exact absurd hh.1 (by simp [nod])
end

theorem nod_dr {ρ : List Nat} {k : List K} {ch : List (Nat × Chunk)} (h : nod k = true) : DrOk ρ k ch := by
  cases k with
  | nil => trivial
  | cons x k => cases x <;> first | trivial | (simp [nod] at h)
theorem Holds.pop {cx : Cx} {ρ : List Nat} {stk k : List K} {fr : List (Nat × AV)} {ch : List (Nat × Chunk)} {nx : Nat} {a : Act} {w : World} (H : Holds cx ρ ⟨stk, fr, ch, nx⟩ a w) (h : DrOk ρ k ch) :
    Holds cx ρ ⟨k, fr, ch, nx⟩ a w := ⟨H.N, H.df, H.len, H.fr, H.sat, H.env, h⟩

/-- out of which code a short form came -/
def CompOf (tb : Tb) (N : Nat) (cc : Code) : ACode → Prop
  | .skip => cc = .skip
  | .region l => ∃ id ops, cc = .region id ops false ∧ compOps tb N ops (List.range ops.size) = some l
  | .draw ops l => ∃ id, cc = .region id ops true ∧ compOps tb N ops (List.range ops.size) = some l
  | .seq x y => ∃ a b, cc = .seq a b ∧ comp tb N a = some x ∧ comp tb N b = some y
  | .cond c x y => ∃ o a b, cc = .cond o a b ∧ argOf o = some c ∧ comp tb N a = some x ∧ comp tb N b = some y
  | .block id x => ∃ a, cc = .block id a ∧ comp tb N a = some x
  | .loop x => ∃ a, cc = .loop a ∧ comp tb N a = some x
  | .exit id => cc = .exit id
  | .ret => cc = .ret
  | .rfunc f ps x y => ∃ o, cc = .rangeFunc o ps x y ∧ argOf o = some f
theorem comp_of {tb : Tb} {N : Nat} {cc : Code} {c : ACode} (h : comp tb N cc = some c) : CompOf tb N cc c := by
  unfold comp at h
  split at h
  · cases h; rfl
  · simp only [Option.map_eq_some_iff] at h; obtain ⟨l, hl, rfl⟩ := h; exact ⟨_, _, rfl, hl⟩
  · simp only [Option.map_eq_some_iff] at h; obtain ⟨l, hl, rfl⟩ := h; exact ⟨_, rfl, hl⟩
  · simp only [Option.bind_eq_some_iff, Option.map_eq_some_iff] at h; obtain ⟨x, hx, y, hy, rfl⟩ := h; exact ⟨_, _, rfl, hx, hy⟩
  · simp only [Option.bind_eq_some_iff, Option.map_eq_some_iff] at h; obtain ⟨o, ho, x, hx, y, hy, rfl⟩ := h; exact ⟨_, _, _, rfl, ho, hx, hy⟩
  · simp only [Option.map_eq_some_iff] at h; obtain ⟨l, hl, rfl⟩ := h; exact ⟨_, rfl, hl⟩
  · simp only [Option.map_eq_some_iff] at h; obtain ⟨l, hl, rfl⟩ := h; exact ⟨_, rfl, hl⟩
  · cases h; rfl
  · cases h; rfl
  · simp only [Option.map_eq_some_iff] at h; obtain ⟨l, hl, rfl⟩ := h; exact ⟨_, rfl, hl⟩
  · cases h

section
variable {cx : Cx} {k : List K} {fr : List (Nat × AV)} {ch : List (Nat × Chunk)} {nx : Nat}
theorem Good.skip (hk : nod k = true) (h : Good cx ⟨k, fr, ch, nx⟩) : Good cx ⟨.code .skip :: k, fr, ch, nx⟩ := fun ρ a w H cc hc => by
  obtain rfl := comp_of hc
  exact wpIn_skip (h ρ a w (H.pop (nod_dr hk)))
theorem Good.region {l : List GOp} (h : Good cx ⟨.ops l :: k, fr, ch, nx⟩) : Good cx ⟨.code (.region l) :: k, fr, ch, nx⟩ := fun ρ a w H cc hc => by
  obtain ⟨id, ops, rfl, hl⟩ := comp_of hc
  exact wpIn_region (h ρ a w (H.pop trivial) ops _ hl)
theorem Good.seq {x y : ACode} (h : Good cx ⟨.code x :: .code y :: k, fr, ch, nx⟩) : Good cx ⟨.code (.seq x y) :: k, fr, ch, nx⟩ := fun ρ a w H cc hc => by
  obtain ⟨c1, c2, rfl, h1, h2⟩ := comp_of hc
  refine wpIn_seq (wpIn_mono (h ρ a w (H.pop trivial) c1 h1) fun e a w hh => ?_)
  cases e with
  | normal => exact hh c2 h2
  | exit id => exact hh
  | goto l => exact hh.elim
  | ret => exact hh
  | panic c => exact hh.elim
  | outgrown => exact hh.elim
theorem Good.cond {c : Arg} {x y : ACode} (b : Bool) (v : AV) (hv : argv fr c = some v) (hb : ∀ ρ, v.ev ρ = some (.bool b)) (h : Good cx ⟨.code (if b then x else y) :: k, fr, ch, nx⟩) : Good cx ⟨.code (.cond c x y) :: k, fr, ch, nx⟩ :=
  fun ρ a w H cc hc => by
  obtain ⟨o, c1, c2, rfl, ho, h1, h2⟩ := comp_of hc
  have he := argOf_ok H.fr ho hv
  rw [hb] at he
  refine wpIn_cond (t := b) (Option.some.inj he).symm ?_
  have hg := h ρ a w (H.pop trivial)
  cases b
  · exact hg c2 h2
  · exact hg c1 h1
theorem Good.block {id : Nat} {x : ACode} (h : Good cx ⟨.code x :: .blk id :: k, fr, ch, nx⟩) : Good cx ⟨.code (.block id x) :: k, fr, ch, nx⟩ := fun ρ a w H cc hc => by
  obtain ⟨c1, rfl, h1⟩ := comp_of hc
  refine wpIn_block (wpIn_mono (h ρ a w (H.pop trivial) c1 h1) fun e a w hh => ?_)
  cases e with
  | normal => exact hh
  | exit id' => exact hh
  | goto l => exact hh.elim
  | ret => exact hh
  | panic c => exact hh.elim
  | outgrown => exact hh.elim
theorem Good.exit {id : Nat} {k' : List K} (hk : popTo id k = some k') (hn : nod k' = true) (h : Good cx ⟨k', fr, ch, nx⟩) : Good cx ⟨.code (.exit id) :: k, fr, ch, nx⟩ := fun ρ a w H cc hc => by
  obtain rfl := comp_of hc
  refine wpIn_exit ?_
  rw [popTo_spec cx hk]
  exact h ρ a w (H.pop (nod_dr hn))
theorem Good.opsNil (hk : nod k = true) (h : Good cx ⟨k, fr, ch, nx⟩) : Good cx ⟨.ops [] :: k, fr, ch, nx⟩ := fun ρ a w H ops is hc => by
  cases is with
  | nil => exact h ρ a w (H.pop (nod_dr hk))
  | cons i t =>
    simp only [compOps, Option.bind_eq_some_iff, Option.map_eq_some_iff] at hc
    obtain ⟨_, _, _, _, _, _, he⟩ := hc
    cases he
end

/-- **What is shown of the next event is shown of the program.** -/
theorem next_ok {cx : Cx} (ht : tbOk cx.P cx.tb = true) (sc : Bool) : ∀ (n : Nat) (p : Prop) (stk : List K) (fr : List (Nat × AV)) (ch : List (Nat × Chunk)) (nx : Nat),
    EvOk cx (next sc n p stk fr ch nx) → p ∧ Good cx ⟨stk, fr, ch, nx⟩ := by
  intro n
  induction n with
  | zero => intro p stk fr ch nx h; exact h
  | succ n ih =>
    intro p stk fr ch nx h
    have keep : ∀ {stk stk' : List K} {fr' : List (Nat × AV)} {ch' : List (Nat × Chunk)} {nx' : Nat}, EvOk cx (next sc n p stk' fr' ch' nx') → (Good cx ⟨stk', fr', ch', nx'⟩ → Good cx ⟨stk, fr, ch, nx⟩) →
        p ∧ Good cx ⟨stk, fr, ch, nx⟩ := fun h hh => ⟨(ih _ _ _ _ _ h).1, hh (ih _ _ _ _ _ h).2⟩
    cases stk with
    | nil => exact ⟨h.1, fun ρ a w H => h.2 ρ a w H⟩
    | cons x k =>
      cases x with
      | code c =>
        cases c with
        | skip =>
          simp only [next] at h
          cases hk : nod k <;> rw [hk] at h
          · exact h.elim
          · exact keep h (Good.skip hk)
        | region l => exact keep h Good.region
        | seq a b => exact keep h Good.seq
        | block id a => exact keep h Good.block
        | cond c a b =>
          simp only [next] at h
          split at h
          · rename_i hv; exact keep h (Good.cond true .tt hv (fun _ => rfl))
          · rename_i hv; exact keep h (Good.cond false .ff hv (fun _ => rfl))
          · rename_i q hv
            split at h
            · rename_i s
              exact ⟨h.1, br_ok (st := ⟨.code (.cond (.t s) a b) :: k, fr, ch, nx⟩) hv h.2.1 h.2.2⟩
            · exact h.elim
          · exact h.elim
        | loop a =>
          simp only [next] at h
          cases hk : nod k <;> rw [hk] at h
          · exact h.elim
          · refine ⟨h.1, fun ρ ac w H cc hc => ?_⟩
            obtain ⟨c1, rfl, h1⟩ := comp_of hc
            exact h.2 ρ ac w (H.pop (nod_dr hk)) c1 h1
        | exit id =>
          simp only [next] at h
          split at h
          · rename_i k' hp
            cases hk : nod k' <;> rw [hk] at h
            · exact h.elim
            · exact keep h (Good.exit hp hk)
          · exact h.elim
        | ret =>
          refine ⟨h.1, fun ρ a w H cc hc => ?_⟩
          obtain rfl := comp_of hc
          refine wpIn_ret ?_
          rw [Disp_ret]
          exact h.2 ρ a w (H.pop trivial)
        | draw ops l =>
          simp only [next] at h
          cases hk : nod k <;> rw [hk] at h
          · exact h.elim
          · refine ⟨h.1, fun ρ a w H cc hc => ?_⟩
            obtain ⟨id, rfl, hl⟩ := comp_of hc
            exact h.2 ρ a w (H.pop (nod_dr hk)) hl id
        | rfunc f ps x y =>
          simp only [next] at h
          cases hk : nod k <;> rw [hk] at h
          · exact h.elim
          · refine ⟨h.1, fun ρ a w H cc hc => ?_⟩
            obtain ⟨o, rfl, ho⟩ := comp_of hc
            exact h.2 ρ a w (H.pop (nod_dr hk)) o ho
      | blk id =>
        simp only [next] at h
        cases hk : nod k <;> rw [hk] at h
        · exact h.elim
        · exact keep h fun hG ρ a w H => hG ρ a w (H.pop (nod_dr hk))
      | lend J => exact ⟨h.1, fun ρ a w H => h.2 ρ a w (H.pop trivial)⟩
      | ops l =>
        cases l with
        | nil =>
          simp only [next] at h
          cases hk : nod k <;> rw [hk] at h
          · exact h.elim
          · exact keep h (Good.opsNil hk)
        | cons y r =>
          obtain ⟨g, o⟩ := y
          simp only [next] at h
          split at h
          · rename_i hg
            have key := ops_step (cx := cx) (fr := fr) (ch := ch) (nx := nx) (k := k) (r := r) (g := g) (o := o) ht hg
            revert key h
            cases hstep : step fr ch nx o with
            | ok d v q =>
              cases q with
              | none => intro h key; exact keep h fun hG => key ⟨fun p hp => (by cases hp), hG⟩
              | some q =>
                intro h key
                have := ih _ _ _ _ _ h
                exact ⟨this.1.1, key ⟨fun p hp => (by cases hp; exact this.1.2), this.2⟩⟩
            | new d v c => intro h key; exact keep h fun hG => key hG
            | st c x q =>
              cases q with
              | none => intro h key; exact keep h fun hG => key ⟨fun p hp => (by cases hp), hG⟩
              | some q =>
                intro h key
                have := ih _ _ _ _ _ h
                exact ⟨this.1.1, key ⟨fun p hp => (by cases hp; exact this.1.2), this.2⟩⟩
            | br s b =>
              intro h _
              dsimp only at h
              split at h
              · rename_i hl; exact ⟨h.1, br_ok (st := ⟨.ops ((g, o) :: r) :: k, fr, ch, nx⟩) hl h.2.1 h.2.2⟩
              · exact h.elim
            | call d f args =>
              cases sc with
              | false => intro h key; exact ⟨h.1, key ⟨trivial, h.2⟩⟩
              | true => intro h _; exact h
            | ev =>
              cases sc with
              | false => intro h key; exact ⟨h.1, key ⟨trivial, h.2⟩⟩
              | true => intro h _; exact h
          · rename_i hg
            exact keep h fun hG => ops_skip hg hG fun x hx => opWith_dst hx
          · rename_i s b hg
            exact ⟨h.1, br_ok (st := ⟨.ops ((g, o) :: r) :: k, fr, ch, nx⟩) (gres_br hg) h.2.1 h.2.2⟩
          · exact h.elim
      | dops lv ρ0 sch ops l =>
        cases l with
        | nil =>
          simp only [next] at h
          cases hk : nod k <;> rw [hk] at h
          · exact h.elim
          · exact keep h fun hG ρ a w H hall => hG ρ a w (H.pop (nod_dr hk))
        | cons y r =>
          obtain ⟨i, qt, g, o⟩ := y
          cases qt with
          | quiet =>
            cases lv with
            | false => simp only [next] at h; exact h.elim
            | true =>
            simp only [next] at h
            split at h
            · rename_i hg
              split at h
              · rename_i d v hs; exact keep h fun hG => dq_step ht hg hs (fun p hp => (by cases hp)) hG
              · rename_i d v q hs
                have := ih _ _ _ _ _ h
                exact ⟨this.1.1, dq_step ht hg hs (fun p hp => (by cases hp; exact this.1.2)) this.2⟩
              · rename_i s b hs
                split at h
                · rename_i hl; exact ⟨h.1, br_ok (st := ⟨.dops true ρ0 sch ops ((i, .quiet, (g, o)) :: r) :: k, fr, ch, nx⟩) hl h.2.1 h.2.2⟩
                · exact h.elim
              · exact h
              · exact h.elim
            · rename_i hg; exact keep h fun hG => dq_skip hg hG
            · rename_i s b hg
              exact ⟨h.1, br_ok (st := ⟨.dops true ρ0 sch ops ((i, .quiet, (g, o)) :: r) :: k, fr, ch, nx⟩) (gres_br hg) h.2.1 h.2.2⟩
            · exact h.elim
          | loud =>
            cases lv with
            | false => simp only [next] at h; exact h.elim
            | true =>
            simp only [next] at h
            split at h
            · rename_i hg
              have key := dl_step (cx := cx) (fr := fr) (ch := ch) (nx := nx) (k := k) (r := r) (g := g) (o := o) (ρ0 := ρ0) (sch := sch) (ops := ops) (i := i) ht hg
              revert key h
              cases hstep : step fr ch nx o with
              | ok d v q =>
                cases q with
                | none => intro h key; exact keep h fun hG => key ⟨fun p hp => (by cases hp), hG⟩
                | some q =>
                  intro h key
                  have := ih _ _ _ _ _ h
                  exact ⟨this.1.1, key ⟨fun p hp => (by cases hp; exact this.1.2), this.2⟩⟩
              | new d v c => intro h key; exact keep h fun hG => key hG
              | st c x q =>
                cases hk : nokey c sch
                · cases q <;> (intro h key; simp only [hk] at h; exact h.elim)
                · cases q with
                  | none => intro h key; simp only [hk] at h; exact keep h fun hG => key ⟨fun p hp => (by cases hp), hk, hG⟩
                  | some q =>
                    intro h key
                    simp only [hk] at h
                    have := ih _ _ _ _ _ h
                    exact ⟨this.1.1, key ⟨fun p hp => (by cases hp; exact this.1.2), hk, this.2⟩⟩
              | br s b =>
                intro h _
                dsimp only at h
                split at h
                · rename_i hl; exact ⟨h.1, br_ok (st := ⟨.dops true ρ0 sch ops ((i, .loud, (g, o)) :: r) :: k, fr, ch, nx⟩) hl h.2.1 h.2.2⟩
                · exact h.elim
              | call d f args =>
                cases sc with
                | false => intro h key; exact ⟨h.1, key ⟨trivial, h.2⟩⟩
                | true => intro h _; exact h
              | ev =>
                cases sc with
                | false => intro h key; exact ⟨h.1, key ⟨trivial, h.2⟩⟩
                | true => intro h _; exact h
            · rename_i hg; exact keep h fun hG => dl_skip hg hG
            · rename_i s b hg
              exact ⟨h.1, br_ok (st := ⟨.dops true ρ0 sch ops ((i, .loud, (g, o)) :: r) :: k, fr, ch, nx⟩) (gres_br hg) h.2.1 h.2.2⟩
            · exact h.elim
          | last =>
            simp only [next] at h
            split at h
            · rename_i hg
              have key := da_step (cx := cx) (fr := fr) (ch := ch) (nx := nx) (k := k) (r := r) (g := g) (o := o) (ρ0 := ρ0) (sch := sch) (ops := ops) (i := i) (lv := lv) ht hg
              revert key h
              cases hstep : step fr ch nx o with
              | ok d v q =>
                cases q with
                | none => intro h key; exact keep h fun hG => key ⟨fun p hp => (by cases hp), hG⟩
                | some q =>
                  intro h key
                  have := ih _ _ _ _ _ h
                  exact ⟨this.1.1, key ⟨fun p hp => (by cases hp; exact this.1.2), this.2⟩⟩
              | new d v c => intro h key; exact keep h fun hG => key hG
              | st c x q =>
                cases q with
                | none => intro h key; exact keep h fun hG => key ⟨fun p hp => (by cases hp), hG⟩
                | some q =>
                  intro h key
                  have := ih _ _ _ _ _ h
                  exact ⟨this.1.1, key ⟨fun p hp => (by cases hp; exact this.1.2), this.2⟩⟩
              | br s b => intro h _; exact h.elim
              | call d f args => intro h key; exact ⟨h.1, key ⟨trivial, h.2⟩⟩
              | ev => intro h key; exact ⟨h.1, key ⟨trivial, h.2⟩⟩
            · rename_i hg; exact keep h fun hG => da_skip hg hG
            · exact h.elim
            · exact h.elim
end Sx
