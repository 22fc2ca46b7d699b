/- Ranges over functions: the call of yield, the rounds, the statement. -/
import Derived.Test.YtolcobhaghdfcaaCon
import Derived.RangeFuncRecord
import Derived.RangeFuncLeaves
namespace Sx
open Go

theorem op_of_call {tb : Tb} {dst : Option Nat} {T : TypeId} {op : Op} {d : Nat} {f : Arg} {l : List Arg} (h : opWith tb dst T op = some (.call d f l)) : ∃ fo as ats, op = .call ⟨.value fo, as, ats⟩ ∧ dst = some d ∧ argOf fo = some f ∧ argsOf as.toList = some l := by
  unfold opWith at h
  split at h
  all_goals try simp only [Option.map_eq_some_iff, Option.bind_eq_some_iff] at h
  · obtain ⟨z, hz, h⟩ := h; cases h
  · obtain ⟨z, hz, h⟩ := h; cases h
  · obtain ⟨z1, h1, z2, h2, h⟩ := h; cases h
  · obtain ⟨i, hi, h⟩ := h; cases h
  · obtain ⟨z, hz, h⟩ := h; cases h
  · obtain ⟨i, hi, pl, hpl, l, hl, h⟩ := h; cases h
  · obtain ⟨i, hi, h⟩ := h
    split at h
    · simp only [Option.bind_eq_some_iff] at h
      obtain ⟨j, hj, h⟩ := h
      rcases cond_some h with ⟨h1, h2⟩ | ⟨_, h2⟩
      · simp only [Option.map_eq_some_iff] at h2
        obtain ⟨l, hl, h⟩ := h2; cases h
      · cases h2
    · cases h
  · obtain ⟨i, hi, z, hz, h⟩ := h; cases h
  · obtain ⟨i, hi, z, hz, u, hu, h⟩ := h; cases h
  · obtain ⟨z, hz, h⟩ := h; cases h
  · obtain ⟨z, hz, u, hu, h⟩ := h
    split at h
    · split at h
      · rename_i o' he
        subst h
        simp only [eqOp, Option.bind_eq_some_iff] at he
        obtain ⟨i, hi, he⟩ := he
        split at he
        · cases he
        · cases he
        · cases he
        · cases he
        · cases he
        · simp only [Option.bind_eq_some_iff] at he
          obtain ⟨j, hj, he⟩ := he
          split at he
          · rcases cond_some he with ⟨h1, h2⟩ | ⟨_, h2⟩
            · cases h2
            · cases h2
          · cases he
        · cases he
      · split at h
        · cases h
        · cases h
    · cases h
  · obtain ⟨z, hz, h⟩ := h; cases h
  · obtain ⟨i, hi, h⟩ := h
    split at h
    · simp only [Option.bind_eq_some_iff] at h
      obtain ⟨p, hp, j, hj, h⟩ := h
      rcases cond_some h with ⟨_, h2⟩ | ⟨h1, h2⟩
      · cases h2
      · simp only [Option.map_eq_some_iff] at h2
        obtain ⟨z, hz, h⟩ := h2; cases h
    · cases h
  · obtain ⟨i, hi, h⟩ := h
    split at h
    · simp only [Option.bind_eq_some_iff, Option.map_eq_some_iff] at h
      obtain ⟨p, hp, j, hj, z, hz, h⟩ := h; cases h
    · cases h
  · obtain ⟨i, hi, h⟩ := h
    split at h
    · simp only [Option.bind_eq_some_iff, Option.map_eq_some_iff] at h
      obtain ⟨j, hj, z, hz, u, hu, h⟩ := h; cases h
    · simp only [Option.bind_eq_some_iff, Option.map_eq_some_iff] at h
      obtain ⟨j, hj, z, hz, u, hu, h⟩ := h; cases h
    · cases h
  · obtain ⟨z, hz, h⟩ := h; cases h
  · obtain ⟨z, hz, u, hu, h⟩ := h; cases h
  · obtain ⟨z, hz, u, hu, h⟩ := h; cases h; exact ⟨_, _, _, rfl, rfl, hz, hu⟩
  · obtain ⟨t, h0, i, hi, h⟩ := h
    split at h
    · simp only [Option.map_eq_some_iff] at h
      obtain ⟨z, hz, h⟩ := h; cases h
    · cases h
  · obtain ⟨i, hi, j, hj, h⟩ := h
    split at h
    · simp only [Option.map_eq_some_iff] at h
      obtain ⟨z, hz, h⟩ := h; cases h
    · cases h
  · obtain ⟨i, hi, h⟩ := h
    split at h
    · simp only [Option.bind_eq_some_iff, Option.map_eq_some_iff] at h
      obtain ⟨j, hj, z, hz, xl, hl, xh, hh, xm, hm, h⟩ := h; cases h
    · simp only [Option.bind_eq_some_iff, Option.map_eq_some_iff] at h
      obtain ⟨j, hj, z, hz, xl, hl, xh, hh, xm, hm, h⟩ := h; cases h
    · cases h
  · cases h


/-- yield, called with these values: a round, that ends so -/
def YieldOk (P : Program) (l : Nat) (vs : List Value) (w : World) (R : Value → World → Prop) : Prop :=
  ∃ f tmps assign body, (Instr.yield l vs.toArray).run P w = .ok (.round l f tmps assign body) w ∧ RoundIn Fence.wide 0 P l f tmps assign body w (fun e w' => ∃ v, e = .returned v ∧ R v w')
theorem ev_yield {cx : Cx} {p : Prop} {d l : Nat} {f : Arg} {args : List Arg} {avs : List AV} {vs : List Value} {stk : List K} {fr : List (Nat × AV)} {ch : List (Nat × Chunk)} {nx : Nat} (hp : p) (hs : argv fr f = some (.v (.func (.yield l) #[] #[])))
    (hargs : argvs fr args = some avs) (hvs : AV.evs [] avs = some vs) (k : Nat) {A : HProp} {B : Bool → HProp} (hk : Nat.blt k nx = true) (hch : lookc ch k = frm A)
    (hY : ∀ F w, Sat (star A F) w → YieldOk cx.P l vs w (fun v w' => Env w w' ∧ ∃ b, v = .bool b ∧ Sat (star (B b) F) w')) (hnod : nod stk = true)
    (ht : Good cx ⟨stk, (d, .tt) :: fr, (k, frm (B true)) :: ch, nx⟩) (hf : Good cx ⟨stk, (d, .ff) :: fr, (k, frm (B false)) :: ch, nx⟩) : EvOk cx (.op p (.call d f args) stk fr ch nx) := by
  refine ⟨hp, fun ρ a w H x hx hop => .inr ⟨hnod, ?_⟩⟩
  obtain ⟨fo, as, ats, h1, h2, h3, h4⟩ := op_of_call hop
  have hkn : k < nx := by simpa using hk
  have e1 := argOf_ok H.fr h3 hs
  simp only [AV.ev, Option.some.injEq] at e1
  have e2 := argsOf_ok H.fr h4 hargs
  have e3 := AV.evs_ext [] ρ _ _ hvs
  rw [List.nil_append, e2] at e3
  have e4 : vs.toArray = as.map a.eval := by
    apply Array.ext'
    simpa using (Option.some.inj e3).symm
  have hsat : Sat (star A (big ρ (upd (lookc ch) k .gone) nx)) w := H.sat.mono fun h hh => star_mono (fun y hy => by rw [hch] at hy; obtain ⟨_, _, hy⟩ := hy; exact hy) (fun _ y => y) (big_out hkn hh)
  obtain ⟨f', tmps, assign, body, hy, hr⟩ := hY _ w hsat
  have hnd : ∀ c, x.op ≠ .defer c := fun c e => by rw [h1] at e; cases e
  refine ⟨fun _ _ => trivial, ?_⟩
  rw [show (fw cx.rd).round = cx.rd from rfl, Oper.semAt_eq cx.rd a.eval x hnd]
  have hrun : (execOp a.eval x).run cx.P w = .ok (.round l f' tmps assign body) w := by
    rw [← hy, e4]
    simp [execOp, h1, resolve, ← e1, Deferred.ofValue, invoke]
  rw [hrun, Oper.uponIn_round]
  refine ⟨fun e => (by cases e), ⟨trivial, fun c cs hroom => ?_⟩⟩
  obtain ⟨e, w', hR, hs'⟩ := hr.2 c cs hroom
  refine ⟨e, w', ?_, hs'⟩
  obtain ⟨v, rfl, he, b, rfl, hsat'⟩ := hR
  have hin : ∀ y : Bool, Sat (star (B y) (big ρ (upd (lookc ch) k .gone) nx)) w' → Sat (big ρ (lookc ((k, frm (B y)) :: ch)) nx) w' := fun y hh => by
    rw [lookc_cons]
    exact hh.mono fun h hh => big_in hkn _ (star_mono (fun z hz => ⟨[], rfl, hz⟩) (fun _ z => z) hh)
  rw [h2] at hx ⊢
  have hst : stabK stk ((k, frm (B b)) :: ch) := by
    cases stk with
    | nil => trivial
    | cons x r => cases x <;> first | trivial | (simp [nod] at hnod)
  cases b with
  | true => exact (land (σ := []) (v := .tt) H hx (by simpa using H.len) rfl (by simpa using hin true hsat') he hst ht).2
  | false => exact (land (σ := []) (v := .ff) H hx (by simpa using H.len) rfl (by simpa using hin false hsat') he hst hf).2

/-! ### rounds -/
/-- what the rounds pass on: all but the frame (name 0), by the names R and some more -/
def JF (R : List Nat) (n m : Nat) (ch : List (Nat × Chunk)) : HProp := fun h => ∃ σ : List Nat, σ.length = m ∧ big (R ++ σ) (lookc ((0, .gone) :: ch)) (n + m) h
def JX {X : Type} (R : List Nat) (n m : Nat) (ok : X → Prop) (ch : X → List (Nat × Chunk)) : HProp := fun h => ∃ x, ok x ∧ JF R n m (ch x) h
theorem JF_in {R : List Nat} {n m : Nat} {ch : List (Nat × Chunk)} {F : HProp} {h : Hp} (hn : 0 < n) (H : star (JF R n m ch) F h) : ∃ σ : List Nat, σ.length = m ∧ big (R ++ σ) (lookc ((0, frm F) :: ch)) (n + m) h := by
  obtain ⟨a, b, d, la, lb, ⟨σ, h1, h2⟩, h3⟩ := H
  refine ⟨σ, h1, ?_⟩
  rw [lookc_cons] at h2 ⊢
  exact big_in (by omega) _ ⟨b, a, d.symm, lb, la, ⟨[], rfl, h3⟩, h2⟩
theorem JF_out {R : List Nat} {n m : Nat} {ch : List (Nat × Chunk)} {F : HProp} {σ : List Nat} (hn : 0 < n) (hσ : σ.length = m) {h : Hp} (H : big (R ++ σ) (lookc ((0, frm F) :: ch)) (n + m) h) : star (JF R n m ch) F h := by
  have h1 := big_out (c := 0) (by omega) H
  rw [lookc_cons, upd_same, upd_upd] at h1
  refine star_comm (star_mono (fun y hy => ?_) (fun y hy => ?_) h1)
  · obtain ⟨_, _, hy⟩ := hy; exact hy
  · exact ⟨σ, hσ, by rw [lookc_cons]; exact hy⟩
/-- what a round owes when its assignments are done -/
def JA (P : Program) (L : Nat) (body : Code) (Rr : Ending → World → Prop) : Act → World → Prop := fun a w => ∃ w₂, (Instr.beginRound L).run P w = .ok () w₂ ∧ body.wpIn (fw (some L)) 0 P (roundPost P L Rr) a w₂
theorem sat_obj {ρ : List Nat} {ch : List (Nat × Chunk)} {nx c b : Nat} {o o' : Obj} {w : World} (hs : Sat (big ρ (lookc ch) nx) w) (hc : c < nx) (hb : ρ[c]? = some b) (ho : lookc ch c = .obj o) :
    w.heap[b]? = some o ∧ Sat (big ρ (lookc ((c, .obj o') :: ch)) nx) (putBlock w b o') := by
  have h1 : Sat (star (pts b o) (big ρ (upd (lookc ch) c .gone) nx)) w := hs.mono fun h hh => star_mono (fun y hy => by
    rw [ho] at hy
    obtain ⟨b', h2, h3⟩ := hy
    rw [hb] at h2; cases h2; exact h3) (fun _ y => y) (big_out hc hh)
  refine ⟨h1.pts, (h1.put (o' := o')).mono fun h hh => ?_⟩
  rw [lookc_cons]
  exact big_in hc _ (star_mono (fun y hy => ⟨b, hb, hy⟩) (fun _ y => y) hh)
theorem r0_get {cx : Cx} {ρ : List Nat} {w : World} (h : EnvP cx ρ w) {c b : Nat} (hb : cx.r0[c]? = some b) : ρ[c]? = some b := by
  obtain ⟨σ, e⟩ := h.pre
  rw [e]; exact getElem?_ext hb σ
theorem ev_begin {P : Program} {tb : Tb} {N : Nat} {Q : Exit → Act → World → Prop} {w0 : World} {R : List Nat} {L : Nat} {p : Prop} {fr : List (Nat × AV)} {ch : List (Nat × Chunk)} {nx : Nat} {body : Code} {aB : ACode} {Rr : Ending → World → Prop} (hp : p) (k : Nat) {r : Loop}
    (hB : comp tb N body = some aB) (hk : Nat.blt k nx = true) (hL : R[k]? = some L) (hr : lookc ch k = .obj (.loop r)) (hst : r.state = .ready)
    (hG : Good ⟨P, tb, N, roundPost P L Rr, w0, R, [], some L⟩ ⟨[.code aB], fr, (k, .obj (.loop { r with state := .busy })) :: ch, nx⟩) :
    EvOk ⟨P, tb, N, Q, w0, R, [], some L⟩ (.lend p (JA P L body Rr) [] fr ch nx) := by
  refine ⟨hp, fun ρ a w H => ?_⟩
  obtain ⟨h1, h2⟩ := sat_obj (o' := .loop { r with state := .busy }) H.sat (by simpa using hk) (r0_get H.env hL) hr
  refine ⟨_, run_beginRound h1 hst, ?_⟩
  have := hG ρ a _ ⟨H.N, H.df, H.len, H.fr, h2, ⟨H.env.env.trans (Env.putBlock w L _), H.env.pre⟩, trivial⟩ body hB
  refine wpIn_mono this fun e a' w' hh => ?_
  cases e with
  | normal => exact hh
  | ret => exact hh
  | exit id => exact hh.elim
  | goto l => exact hh.elim
  | panic c => exact hh.elim
  | outgrown => exact hh.elim
/-- what a yield's round comes to -/
abbrev Ry (w0 : World) (F : HProp) (B : Bool → HProp) : Ending → World → Prop := fun e w' => ∃ v, e = .returned v ∧ Env w0 w' ∧ ∃ b, v = .bool b ∧ Sat (star (B b) F) w'
theorem fin_round {P : Program} {tb : Tb} {N : Nat} {w0 : World} {R : List Nat} {L : Nat} {p : Prop} {fr : List (Nat × AV)} {ch : List (Nat × Chunk)} {nx : Nat} {F : HProp} {B : Bool → HProp} (hp : p) (k : Nat) {r r' : Loop}
    (hk : Nat.blt k nx = true) (hL : R[k]? = some L) (hr : lookc ch k = .obj (.loop r)) (hr' : { r with state := .ready, pending := none } = r') (m : Nat) (ch' : List (Nat × Chunk)) (hB : ∀ h, JF R R.length m ch' h → B true h)
    (π : List Nat) (hlen : Nat.beq π.length (R.length + m) = true) (hlt : (π.all fun j => Nat.blt j nx) = true) (hnd : nodupB π = true) (hkp : keepsN R.length 0 π = true) (hR : Nat.blt 0 R.length = true)
    (hch : FitCh ((k, .obj (.loop r')) :: ch) π ((0, frm F) :: ch') 0 π) :
    EvOk ⟨P, tb, N, roundPost P L (Ry w0 F B), w0, R, [], some L⟩ (.fin p [] fr ch nx) := by
  refine ⟨hp, fun ρ a w H => ?_⟩
  obtain ⟨h1, h2⟩ := sat_obj (o' := .loop r') H.sat (by simpa using hk) (r0_get H.env hL) hr
  have h3 := run_endRound (P := P) none h1
  simp only [Option.isNone_none, if_true, hr'] at h3
  refine ⟨_, _, h3, _, rfl, H.env.env.trans (Env.putBlock w L _), true, rfl, ?_⟩
  have hHlen : ρ.length = nx := H.len
  have hlt' : ∀ j ∈ π, j < ρ.length := fun j hj => by
    have := List.all_eq_true.1 hlt j hj
    rw [hHlen]; simpa using this
  obtain ⟨ρ', hl, hl2⟩ := lkn_of_lt hlt'
  obtain ⟨σ0, hσ0⟩ := H.env.pre
  have hl' := hl
  rw [hσ0] at hl'
  obtain ⟨σ, hσ⟩ := lkn_pre hl' hkp
  have hlen' : ρ'.length = R.length + m := by rw [hl2]; exact Nat.eq_of_beq_eq_true hlen
  refine h2.mono fun h hh => star_mono (fun y hy => hB y hy) (fun _ y => y) <| JF_out (σ := σ) (by simpa using hR) (by rw [hσ, List.length_append] at hlen'; simp only at hlen'; omega) ?_
  rw [← hσ, ← hlen', hl2]
  refine big_pick hl π.length _ _ h (Nat.le_refl _) (fun i j hi hj => ⟨?_, ?_⟩) ?_ hh
  · have := hlt' j (List.mem_of_getElem? hj)
    rw [hHlen] at this; exact this
  · have := hch.get hj
    simpa using this
  · intro i i' j hi hi' h1 h2
    have hnd' := nodupB_nodup hnd
    rw [List.getElem?_eq_getElem hi] at h1
    rw [List.getElem?_eq_getElem hi'] at h2
    have : π[i] = π[i'] := by rw [Option.some.inj h1, Option.some.inj h2]
    exact (List.getElem_inj hnd').1 this

/-- a round of a loop with two parameters -/
theorem yield_round {P : Program} {tb : Tb} {N : Nat} {r : Loop} {aA : ACode} {R : List Nat} {L k m : Nat} {ch : List (Nat × Chunk)} {fr : List (Nat × AV)} {p1 p2 : Nat} {v1 v2 : AV} {x1 x2 : Value} {B : Bool → HProp}
    (hA : comp tb N r.assign = some aA) (hN : r.tmps.size = N) (hps : r.params = #[p1, p2]) (h1 : p1 < N) (h2 : p2 < N) (hv1 : v1.ev [] = some x1) (hv2 : v2.ev [] = some x2) (hfr : FrOk R fr ⟨r.tmps, []⟩)
    (hk : k < R.length) (hL : R[k]? = some L) (hch : lookc ch k = .obj (.loop r)) (hk0 : k ≠ 0) (F : HProp) (w : World)
    (hG : ∀ F w0, Good ⟨P, tb, N, fun _ _ _ => False, w0, R, [], some L⟩ ⟨[.code aA, .lend (JA P L r.body (Ry w0 F B))], (p2, v2) :: (p1, v1) :: fr, (0, frm F) :: ch, R.length + m⟩)
    (hs : Sat (star (JF R R.length m ch) F) w) : YieldOk P L [x1, x2] w (fun v w' => Env w w' ∧ ∃ b, v = .bool b ∧ Sat (star (B b) F) w') := by
  have hR : 0 < R.length := by omega
  obtain ⟨h, hle, hh⟩ := hs
  obtain ⟨σ, hσ, hb⟩ := JF_in hR hh
  have hsat : Sat (big (R ++ σ) (lookc ((0, frm F) :: ch)) (R.length + m)) w := ⟨h, hle, hb⟩
  have hlk : lookc ((0, frm F) :: ch) k = .obj (.loop r) := by rw [lookc_cons]; simp [upd, hk0, hch]
  have hobj := (sat_obj (o' := .loop r) hsat (by omega) (getElem?_ext hL σ) hlk).1
  refine ⟨_, _, _, _, run_yield hobj (by rw [hps]; rfl), ?_⟩
  refine roundIn_of_wpIn trivial ?_
  have ht : (r.params.zip [x1, x2].toArray).foldl (fun tmps (t, a) => tmps.setIfInBounds t a) r.tmps = (((⟨r.tmps, []⟩ : Act).put (some p1) x1).put (some p2) x2).tmps := by
    rw [hps]; simp [Act.put]
  have hfr' : FrOk (R ++ σ) ((p2, v2) :: (p1, v1) :: fr) (((⟨r.tmps, []⟩ : Act).put (some p1) x1).put (some p2) x2) := by
    refine FrOk.put (N := N) (FrOk.put (N := N) (hfr.ext σ) hN h1 ?_) (by rw [put_size]; exact hN) h2 ?_
    · have := AV.ev_ext [] (R ++ σ) _ _ hv1; simpa using this
    · have := AV.ev_ext [] (R ++ σ) _ _ hv2; simpa using this
  have hD := hG F w (R ++ σ) (((⟨r.tmps, []⟩ : Act).put (some p1) x1).put (some p2) x2) w ⟨by rw [put_size, put_size]; exact hN, by rw [put_defers, put_defers], by simp [hσ], hfr', hsat, ⟨Env.refl w, ⟨σ, rfl⟩⟩, trivial⟩ _ hA
  rw [ht]
  have e : ({ tmps := (((⟨r.tmps, []⟩ : Act).put (some p1) x1).put (some p2) x2).tmps, defers := [] } : Act) = (((⟨r.tmps, []⟩ : Act).put (some p1) x1).put (some p2) x2) := rfl
  rw [e]
  refine wpIn_mono hD fun e a' w' hh => ?_
  cases e with
  | normal => exact hh
  | ret => exact hh.elim
  | exit id => exact hh.elim
  | goto l => exact hh.elim
  | panic c => exact hh.elim
  | outgrown => exact hh.elim

/-! ### the statement -/
theorem Disp_eq {P : Program} {tb : Tb} {N : Nat} {Q : Exit → Act → World → Prop} {rd : Option Nat} {w0 w0' : World} {r0 r0' : List Nat} {df df' : List Deferred} : ∀ k : List K, Disp ⟨P, tb, N, Q, w0, r0, df, rd⟩ k = Disp ⟨P, tb, N, Q, w0', r0', df', rd⟩ k
  | [] => rfl
  | x :: k => by
    have ih := Disp_eq (P := P) (tb := tb) (N := N) (Q := Q) (rd := rd) (w0 := w0) (w0' := w0') (r0 := r0) (r0' := r0') (df := df) (df' := df') k
    funext e a w
    cases e <;> cases x <;> simp only [Disp, ih]
theorem star_perm4 {A B C D : HProp} {h : Hp} (H : star A (star B (star C D)) h) : star D (star B (star A (star C emp))) h := by
  have h1 : star (star A (star B C)) D h := star_assoc' (star_mono (fun _ x => x) (fun _ x => star_assoc' x) H)
  refine star_mono (fun _ x => x) (fun y hy => ?_) (star_comm h1)
  exact star_mono (fun _ x => x) (fun _ x => star_mono (fun _ x => x) (fun _ x => star_emp x) x) (star_left_comm hy)
theorem big_in' {ρ : List Nat} {ch : List (Nat × Chunk)} {n c : Nat} {x : Chunk} {E : HProp} {h : Hp} (hc : c < n) (H : star (x.hp ρ c) (star (big ρ (lookc ch) n) E) h) : star (big ρ (lookc ((c, x) :: ch)) n) E h := by
  rw [lookc_cons]
  exact star_mono (fun y hy => big_in hc _ (star_mono (fun _ q => q) (fun z hz => big_drop hz) hy)) (fun _ q => q) (star_assoc' H)
def closedC (cs : List AV) : Bool := (AV.evc [] cs).isSome
theorem closed_hp {cs : List AV} {T : TypeId} (h : closedC cs = true) {ρ ρ' : List Nat} {i j : Nat} (e : ρ[i]? = ρ'[j]?) {x : Hp} (H : (Chunk.cells cs T).hp ρ i x) : (Chunk.cells cs T).hp ρ' j x := by
  obtain ⟨vs, hvs⟩ := Option.isSome_iff_exists.1 h
  obtain ⟨b, us, h1, h2, h3⟩ := H
  have h4 := AV.evc_ext [] ρ _ _ hvs
  have h5 := AV.evc_ext [] ρ' _ _ hvs
  rw [List.nil_append] at h4 h5
  rw [h4] at h2; cases h2
  exact ⟨b, vs, by rw [← e]; exact h1, h5, h3⟩
def chJ (nx : Nat) (r : Loop) (ch : List (Nat × Chunk)) : List (Nat × Chunk) := (nx, .obj (.deferred (some []))) :: (nx + 1, .obj (.loop r)) :: ch
theorem ev_rfunc {P : Program} {tb : Tb} {N : Nat} {Q : Exit → Act → World → Prop} {w0 : World} {r0 : List Nat} {df : List Deferred} {p : Prop} {fa : Arg} {params : Array Tmp} {assign body : Code} {stk : List K} {fr : List (Nat × AV)} {ch : List (Nat × Chunk)} {nx : Nat} (hp : p)
    {g : Nat} {fn : Func} (hf : P.funcs[g]? = some fn) (hb : fn.body.isSome = true) (hnm : (fn.name == "runtime.NumGoroutine") = false) (c1 c2 : Nat) (hfa : argv fr fa = some (.fn (.func g) [] [.ptr c1 0, .ptr c2 0]))
    (hc1 : 0 < c1 ∧ c1 < nx) (hc2 : 0 < c2 ∧ c2 < nx) (h12 : c1 ≠ c2) {cs1 cs2 : List AV} {T1 T2 : TypeId} (hl1 : lookc ch c1 = .cells cs1 T1) (hl2 : lookc ch c2 = .cells cs2 T2) (hcl1 : closedC cs1 = true) (hcl2 : closedC cs2 = true) (hnod : nod stk = true)
    {F0 : HProp} (h0 : lookc ch 0 = frm F0) (n : Nat) (m : Nat → Nat) {X : Type} (Ch : Nat → X → List (Nat × Chunk)) (ok : Nat → X → Prop) (hm0 : m 0 = 0) (y0 : X) (hok0 : ok 0 y0) (hCh0 : Ch 0 y0 = (c1, .gone) :: (c2, .gone) :: ch) (xs : Nat → List Value)
    (hiter : ∀ (l : Nat) (J : Nat → HProp), (∀ j, j < n → ∀ F w, Sat (star (J j) F) w → YieldOk P l (xs j) w (fun v w' => Env w w' ∧ ∃ b, v = .bool b ∧ Sat (star (bif b then J (j + 1) else lift False) F) w')) →
      ACtr P g 4 [.v (.func (.yield l) #[] #[]), .ptr 1 0, .ptr 2 0] [(1, .cells cs1 T1), (2, .cells cs2 T2), (3, frm (J 0))] (fun _ : Unit => 0) (fun _ => .tup []) (fun _ => [(1, .cells cs1 T1), (2, .cells cs2 T2), (3, frm (J n))]))
    (hround : ∀ (b : Nat → Nat) (r : Loop) (j : Nat), j < n → r.state = .ready → r.pending = none → r.params = params → r.assign = assign → r.body = body → r.tmps.size = N → FrOk (nms b 0 (nx + 2)) fr ⟨r.tmps, []⟩ → ∀ F w x, ok j x →
      Sat (star (JF (nms b 0 (nx + 2)) (nx + 2) (m j) (chJ nx r (Ch j x))) F) w → YieldOk P (b (nx + 1)) (xs j) w (fun v w' => Env w w' ∧ ∃ q, v = .bool q ∧ Sat (star (bif q then JX (nms b 0 (nx + 2)) (nx + 2) (m (j + 1)) (ok (j + 1)) (fun x => chJ nx r (Ch (j + 1) x)) else lift False) F) w'))
    (hG : ∀ (b : Nat → Nat) (x : X), ok n x → (∃ τ, nms b 0 (nx + 2) = r0 ++ τ) → Good ⟨P, tb, N, Q, w0, nms b 0 (nx + 2), [{ target := .collected (b nx), args := #[] }] ++ df, none⟩ ⟨stk, fr, (nx + 1, .gone) :: (c2, .cells cs2 T2) :: (c1, .cells cs1 T1) :: (0, frm F0) :: (nx, .obj (.deferred (some []))) :: Ch n x, nx + 2 + m n⟩) :
    EvOk ⟨P, tb, N, Q, w0, r0, df, none⟩ (.rfunc p fa params assign body stk fr ch nx) := by
  refine ⟨hp, fun ρ a w H fo hfo => wpIn_rangeFunc (fun fn' _ => ?_)⟩
  have hHlen : ρ.length = nx := H.len
  have he := argOf_ok H.fr hfo hfa
  simp only [AV.ev, AV.evs, Option.bind_eq_some_iff, Option.map_eq_some_iff, Option.some.injEq] at he
  obtain ⟨z1, hz1, z2, ⟨y1, ⟨b1, hb1, rfl⟩, z3, ⟨y2, ⟨b2, hb2, rfl⟩, z4, rfl, rfl⟩, rfl⟩, hev⟩ := he
  subst hz1
  let D := w.heap.size
  let rec0 : Loop := { state := .ready, pending := none, fn := fn', tmps := a.tmps, params := params, assign := assign, body := body, defers := D }
  let w₁ : World := (w.alloc (.deferred (some []))).alloc (.loop rec0)
  let R : List Nat := ρ ++ [D, D + 1]
  let b : Nat → Nat := fun i => R.getD i 0
  have hRlen : R.length = nx + 2 := by simp [R, hHlen]
  have hRn : nms b 0 (nx + 2) = R := by rw [nms_of (nx + 2) 0 (by omega), List.drop_zero]
  have hRD : R[nx]? = some D := by simp [R, ← hHlen]
  have hRL : R[nx + 1]? = some (D + 1) := by simp [R, ← hHlen]
  have hbD : b nx = D := by simp [b, List.getD_eq_getElem?_getD, hRD]
  have hbL : b (nx + 1) = D + 1 := by simp [b, List.getD_eq_getElem?_getD, hRL]
  have hR1 : R[c1]? = some b1 := getElem?_ext hb1 _
  have hR2 : R[c2]? = some b2 := getElem?_ext hb2 _
  let args : Array Value := #[.func (.yield (D + 1)) #[] #[], .pointer (some ⟨b1, 0, none⟩), .pointer (some ⟨b2, 0, none⟩)]
  have hsat1 : Sat (big R (lookc ((nx, .obj (.deferred (some []))) :: (nx + 1, .obj (.loop rec0)) :: ch)) (nx + 2)) w₁ := by
    have h1 := (H.sat.new (.deferred (some []))).new (.loop rec0)
    refine h1.mono fun h hh => ?_
    have hsz : ({ w with heap := w.heap.push (.deferred (some [])) } : World).heap.size = D + 1 := by simp [D]
    rw [hsz] at hh
    show star _ (star _ (big R _ nx)) h
    rw [big_congr (g' := lookc ch) (fun i hi => by rw [lookc_cons, lookc_cons]; simp only [upd]; rw [if_neg (by omega), if_neg (by omega)])]
    refine star_mono (fun y hy => ?_) (fun y hy => star_mono (fun z hz => ?_) (fun z hz => big_ext hz) hy) hh
    · rw [lookc_cons, lookc_cons]
      simp only [upd, Nat.succ_ne_self, if_false, if_true]
      exact ⟨_, hRL, hy⟩
    · rw [lookc_cons]
      simp only [upd, if_true]
      exact ⟨_, hRD, hz⟩
  let J : Nat → HProp := fun j => JX R (nx + 2) (m j) (ok j) (fun x => chJ nx rec0 (Ch j x))
  have hfrR : FrOk R fr ⟨rec0.tmps, []⟩ := fun s v hv => let ⟨x, h1, h2⟩ := H.fr s v hv; ⟨x, AV.ev_ext ρ _ v x h1, h2⟩
  have hY : ∀ j, j < n → ∀ F w, Sat (star (J j) F) w → YieldOk P (D + 1) (xs j) w (fun v w' => Env w w' ∧ ∃ b, v = .bool b ∧ Sat (star (bif b then J (j + 1) else lift False) F) w') := fun j hj F w hs => by
    obtain ⟨h', hle', ha', hb', hdd, hla, hlb, ⟨xx, hokx, hxx⟩, hff⟩ := hs
    have := hround b rec0 j hj rfl rfl rfl rfl rfl H.N (by rw [hRn]; exact hfrR) F w xx hokx (by rw [hRn]; exact ⟨h', hle', ha', hb', hdd, hla, hlb, hxx, hff⟩)
    rw [hRn, hbL] at this
    exact this
  have hctr := hiter (D + 1) J hY
  have hpre : Sat (big [0, b1, b2, 0] (lookc ((0, frm F0) :: [(1, .cells cs1 T1), (2, .cells cs2 T2), (3, frm (J 0))])) 4) w₁ := by
    refine hsat1.mono fun h hh => ?_
    have h1 := big_out (c := c1) (by omega) hh
    have eo : ∀ (g : Nat → Chunk) (y : Hp), big R g (nx + 2) y → star ((g c2).hp R c2) (star ((upd g c2 .gone 0).hp R 0) (big R (upd (upd g c2 .gone) 0 .gone) (nx + 2))) y :=
      fun g y hy => star_mono (fun _ x => x) (fun z hz => big_out (by omega) hz) (big_out (by omega) hy)
    have h2 := star_mono (fun _ x => x) (eo _) h1
    have h3 := star_perm4 h2
    show star _ (star _ (star _ (star _ _))) h
    have e1 : lookc ((nx, .obj (.deferred (some []))) :: (nx + 1, .obj (.loop rec0)) :: ch) c1 = .cells cs1 T1 := by
      rw [lookc_cons, lookc_cons]; simp only [upd]; rw [if_neg (by omega), if_neg (by omega), hl1]
    have e2 : upd (lookc ((nx, .obj (.deferred (some []))) :: (nx + 1, .obj (.loop rec0)) :: ch)) c1 .gone c2 = .cells cs2 T2 := by
      rw [lookc_cons, lookc_cons]; simp only [upd]; rw [if_neg (Ne.symm h12), if_neg (by omega), if_neg (by omega), hl2]
    have e3 : upd (upd (lookc ((nx, .obj (.deferred (some []))) :: (nx + 1, .obj (.loop rec0)) :: ch)) c1 .gone) c2 .gone 0 = frm F0 := by
      rw [lookc_cons, lookc_cons]; simp only [upd]; rw [if_neg (by omega), if_neg (by omega), if_neg (by omega), if_neg (by omega), h0]
    rw [e1, e2, e3] at h3
    refine star_mono (fun y hy => ?_) (fun y hy => star_mono (fun z hz => closed_hp hcl2 (by rw [hR2]; rfl) hz) (fun z hz => star_mono (fun x hx => closed_hp hcl1 (by rw [hR1]; rfl) hx) (fun x hx => star_mono (fun u hu => ?_) (fun _ u => u) hx) hz) hy) h3
    · refine ⟨[], rfl, y0, hok0, [], hm0.symm ▸ rfl, ?_⟩
      rw [hm0, List.append_nil, Nat.add_zero]
      refine (congrFun (big_congr fun i hi => ?_) y).mp hy
      simp only [chJ, hCh0, lookc_cons, upd]
      by_cases e0 : i = 0
      · simp [e0]
      · by_cases ea : i = c1
        · subst ea; rw [if_neg e0, if_neg h12, if_pos rfl, if_neg e0, if_neg (by omega), if_neg (by omega), if_pos rfl]
        · by_cases eb : i = c2
          · subst eb; rw [if_neg e0, if_pos rfl, if_neg e0, if_neg (by omega), if_neg (by omega), if_neg ea, if_pos rfl]
          · simp [e0, ea, eb]
    · obtain ⟨_, _, hu⟩ := hu
      exact ⟨[], rfl, hu⟩
  have hargs : AV.evs [0, b1, b2, 0] [.v (.func (.yield (D + 1)) #[] #[]), .ptr 1 0, .ptr 2 0] = some args.toList := rfl
  have hcall := hctr F0 [0, b1, b2, 0] args.toList w₁ rfl hargs hpre
  obtain ⟨fb, hfb⟩ := Option.isSome_iff_exists.1 hb
  have hnm' : ¬ fn.name = "runtime.NumGoroutine" := by simpa using hnm
  have hcf : (callFunc g args).run P w₁ = .ok (.enter g args) w₁ := by simp [callFunc, hf, hnm', hfb]
  have hcalls : Calls P g args w₁ fun e w' => ∃ v, e = .returned v ∧ Env w₁ w' ∧ ∃ (x : Unit) (σ : List Nat), σ.length = 0 ∧ (AV.tup []).ev ([0, b1, b2, 0] ++ σ) = some v ∧ Sat (big ([0, b1, b2, 0] ++ σ) (lookc ((0, frm F0) :: [(1, .cells cs1 T1), (2, .cells cs2 T2), (3, frm (J n))])) (4 + 0)) w' := by
    rcases hcall with ⟨_, h⟩ | ⟨v, w', h, _⟩
    · exact h
    · have h' : (callFunc g args).run P w₁ = .ok (.value v) w' := h
      rw [hcf] at h'; cases h'
  refine ⟨D + 1, [{ target := .collected D, args := #[] }], w₁, { target := .fn (.func g) #[.pointer (some ⟨b1, 0, none⟩), .pointer (some ⟨b2, 0, none⟩)], args := #[.func (.yield (D + 1)) #[] #[]] }, w₁, g, args, w₁, run_enterLoop_outer fn' a.tmps params assign body, ?_, fun _ _ => trivial, ?_, fun e => (by cases e), callsIn_fw (hcalls.mono ?_)⟩
  · simp only [resolve, ← hev]
    simp [Deferred.ofValue, Act.eval]
  · simpa [invoke] using hcf
  · rintro e w₃ ⟨v, rfl, henv, _, σ, hσ, _, hs⟩
    have hσ' : σ = [] := List.eq_nil_of_length_eq_zero hσ
    subst hσ'
    obtain ⟨xx, hokx, σ', hσ', hs3⟩ : ∃ (xx : X) (_ : ok n xx) (σ' : List Nat), σ'.length = m n ∧ Sat (big (R ++ σ') (lookc ((c2, .cells cs2 T2) :: (c1, .cells cs1 T1) :: (0, frm F0) :: chJ nx rec0 (Ch n xx))) (nx + 2 + m n)) w₃ := by
      obtain ⟨h, hle, hh⟩ := hs
      have hh' : star _ (star _ (star _ (star _ _))) h := hh
      obtain ⟨x, y, dxy, lx, ly, hx, hy⟩ := hh'
      obtain ⟨_, _, xx, hokx, σ', hσ', hx⟩ := hx
      have h1 : star (big (R ++ σ') (lookc ((0, .gone) :: chJ nx rec0 (Ch n xx))) (nx + 2 + m n)) (star ((Chunk.cells cs2 T2).hp (R ++ σ') c2) (star ((Chunk.cells cs1 T1).hp (R ++ σ') c1) (star ((frm F0).hp (R ++ σ') 0) emp))) h := by
        refine ⟨x, y, dxy, lx, ly, hx, star_mono (fun z hz => closed_hp hcl2 (by rw [getElem?_ext hR2]; rfl) hz) (fun z hz => star_mono (fun u hu => closed_hp hcl1 (by rw [getElem?_ext hR1]; rfl) hu) (fun u hu => star_mono (fun q hq => ?_) (fun _ q => trivial) hu) hz) hy⟩
        obtain ⟨_, _, hq⟩ := hq
        exact ⟨[], rfl, hq⟩
      have h2 : star (big (R ++ σ') (lookc ((c2, .cells cs2 T2) :: (c1, .cells cs1 T1) :: (0, frm F0) :: chJ nx rec0 (Ch n xx))) (nx + 2 + m n)) emp h := by
        have h3 := star_mono (fun _ q => q) (fun z hz => star_mono (fun _ q => q) (fun z hz => star_left_comm hz) (star_left_comm hz)) (star_left_comm h1)
        refine big_in' (by omega) (star_mono (fun _ q => q) (fun z hz => ?_) h3)
        refine big_in' (by omega) (star_mono (fun _ q => q) (fun z hz => ?_) hz)
        have h7 := big_in' (by omega) hz
        have e7 : lookc ((0, frm F0) :: (0, .gone) :: chJ nx rec0 (Ch n xx)) = lookc ((0, frm F0) :: chJ nx rec0 (Ch n xx)) := by rw [lookc_cons, lookc_cons, upd_upd, lookc_cons]
        rw [e7] at h7
        exact h7
      exact ⟨xx, hokx, σ', hσ', Sat.left (B := emp) ⟨h, hle, h2⟩⟩
    have hlk : lookc ((c2, .cells cs2 T2) :: (c1, .cells cs1 T1) :: (0, frm F0) :: chJ nx rec0 (Ch n xx)) (nx + 1) = .obj (.loop rec0) := by
      simp only [chJ, lookc_cons, upd]
      rw [if_neg (by omega), if_neg (by omega), if_neg (by omega), if_neg (by omega)]; simp
    obtain ⟨ho, hs4⟩ := sat_obj (o' := .loop { rec0 with state := .exhausted }) hs3 (c := nx + 1) (by omega) (getElem?_ext hRL σ') hlk
    refine ⟨none, _, run_endLoop ho (by simp [rec0]), ?_⟩
    have hG' := hG b xx hokx (by
      obtain ⟨τ, hτ⟩ := H.env.pre
      exact ⟨τ ++ [D, D + 1], by rw [hRn, ← List.append_assoc, ← hτ]⟩)
    rw [hRn, hbD] at hG'
    have := hG' (R ++ σ') { a with defers := [{ target := .collected D, args := #[] }] ++ a.defers } (putBlock w₃ (D + 1) (.loop { rec0 with state := .exhausted }))
      ⟨H.N, by rw [show a.defers = df from H.df], by simp [hRlen, hσ'], fun s v hv => ?_, hs4.mono fun h hh => ?_, ⟨?_, ⟨σ', rfl⟩⟩, nod_dr hnod⟩
    · rw [Disp_eq (w0' := w0) (r0' := r0) (df' := df)] at this
      exact this
    · obtain ⟨x, h1, h2⟩ := hfrR s v hv
      exact ⟨x, AV.ev_ext R σ' v x h1, h2⟩
    · have h1 := big_drop (c := nx + 1) hh
      refine (congrFun (big_congr fun i hi => ?_) h).mp h1
      simp only [chJ, lookc_cons, upd]
      by_cases e : i = nx + 1
      · simp [e]
      · simp [e]
    · have h1 : Env w w₁ := (Env.new w _).trans (Env.new _ _)
      exact ((H.env.env.trans h1).trans henv).trans (Env.putBlock _ _ _)

/-! ### a function that holds such a statement -/
theorem actr_ofM {P : Program} {tb : Tb} {f : Nat} {fn : Func} {ac : ACode} (hf : P.funcs[f]? = some fn) (hb' : fn.body.isSome = true) (hnm : (fn.name == "runtime.NumGoroutine") = false) {N : Nat} (hNt : fn.ntmps = N) (hc : comp tb N (fn.body.getD .skip) = some ac)
    {n : Nat} {avs : List AV} {pre : List (Nat × Chunk)} {X : Type} {m : X → Nat} {rv : X → AV} {post : X → List (Nat × Chunk)} (hN : Nat.ble avs.length N = true)
    (hgood : ∀ (F : HProp) (w0 : World) (b : Nat → Nat), Good ⟨P, tb, N, bodyPostM Fence.wide 0 P fn (postA F w0 (nms b 0 n) m rv post), w0, nms b 0 n, [], none⟩ ⟨[.code ac], frOf 0 avs, (0, frm F) :: pre, n⟩) : ACtr P f n avs pre m rv post := by
  subst hNt
  intro F ρ args w hlen0 hargs hs
  obtain ⟨c, hb⟩ := Option.isSome_iff_exists.1 hb'
  rw [hb, Option.getD_some] at hc
  have hr0 : nms (fun i => ρ.getD i 0) 0 n = ρ := by rw [nms_of n 0 (by omega), List.drop_zero]
  refine .inl ⟨?_, ?_⟩
  · have hnm' : ¬ fn.name = "runtime.NumGoroutine" := by simpa using hnm
    simp [callFunc, hf, hnm', hb]
  · have hlen := evs_length hargs
    have hN' : avs.length ≤ fn.ntmps := Nat.le_of_ble_eq_true hN
    have hG := hgood F w (fun i => ρ.getD i 0)
    rw [hr0] at hG
    have hpost : ∀ e w', postA F w ρ m rv post e w' → ∃ v, e = .returned v ∧ Env w w' ∧ ∃ x σ, σ.length = m x ∧ (rv x).ev (ρ ++ σ) = some v ∧ Sat (big (ρ ++ σ) (lookc ((0, frm F) :: post x)) (n + m x)) w' := fun e w' h => by
      rw [postA, hlen0] at h; exact h
    refine ((callsIn_wide (n := 0)).1 (callsIn_of_wp_marks hf hb trivial (R := postA F w ρ m rv post) ?_)).mono hpost
    have hD := hG ρ { tmps := args.toArray ++ Array.replicate (fn.ntmps - args.toArray.size) undef, defers := [] } w
      ⟨by simp; omega, rfl, hlen0, ?_, hs, ⟨Env.refl w, ⟨[], by simp⟩⟩, trivial⟩ c hc
    · refine wpIn_mono hD fun e a' w' hh => ?_
      cases e with
      | normal => exact hh
      | ret => exact hh
      | exit id => exact hh.elim
      | goto l => exact hh.elim
      | panic c => exact hh.elim
      | outgrown => exact hh.elim
    · intro s v hv
      obtain ⟨x, h1, _, h2⟩ := frOf_ok hargs hv
      refine ⟨x, h1, ?_⟩
      rw [Nat.sub_zero] at h2
      obtain ⟨hlt, h2⟩ := List.getElem?_eq_some_iff.1 h2
      simp [Array.getElem?_append, hlt, h2]
theorem ret_abM {P : Program} {tb : Tb} {N : Nat} {fn : Func} {w0 : World} {R r0 : List Nat} {F : HProp} {X : Type} {m : X → Nat} {rv : X → AV} {post : X → List (Nat × Chunk)} (ht : tbOk P tb = true) {p : Prop} {stk : List K} {fr : List (Nat × AV)} {ch : List (Nat × Chunk)} {nx D : Nat} (hp : p)
    (k : Nat) (hk : Nat.blt k nx = true) (hD : R[k]? = some D) (hd : lookc ch k = .obj (.deferred (some []))) (hRr : ∃ τ, R = r0 ++ τ)
    {l : List AV} (hres : resA tb fr ((k, .obj (.deferred none)) :: ch) fn.results.toList = some l) (x : X) (π : List Nat) (hlen : Nat.beq π.length (r0.length + m x) = true) (hlt : (π.all fun j => Nat.blt j nx) = true) (hnd : nodupB π = true) (hkp : keepsN r0.length 0 π = true)
    (hrv : AV.ren π (rv x) = some (resV l)) (hch : FitCh ((k, .obj (.deferred none)) :: ch) π ((0, frm F) :: post x) 0 π) :
    EvOk ⟨P, tb, N, bodyPostM Fence.wide 0 P fn (postA F w0 r0 m rv post), w0, R, [{ target := .collected D, args := #[] }], none⟩ (.ret p stk fr ch nx) := by
  refine ⟨hp, fun ρ a w H => ?_⟩
  obtain ⟨h1, h2⟩ := sat_obj (o' := .deferred none) H.sat (by simpa using hk) (r0_get H.env hD) hd
  have hn : ρ.length = nx := H.len
  show LeavesInM Fence.wide 0 P fn a.tmps _ a.defers .returning w
  rw [show a.defers = [{ target := .collected D, args := #[] }] from H.df]
  refine ⟨by simp, .inl ⟨D, _, rfl, run_takeDeferred h1, ?_⟩⟩
  obtain ⟨vs, h3, h4⟩ := resA_ok (w := putBlock w D (.deferred none)) ht H.fr hn h2.each hres
  have hrun : (results fn a.tmps).run P (putBlock w D (.deferred none)) = .ok (if h : vs.toArray.size = 1 then vs.toArray[0] else .tuple vs.toArray) (putBlock w D (.deferred none)) := by
    rw [results_eq, Sem.run_bind]
    have : (fn.results.mapM (resM a.tmps)).run P (putBlock w D (.deferred none)) = .ok vs.toArray (putBlock w D (.deferred none)) := by
      rw [← Array.toArray_toList (xs := fn.results)]
      simp only [List.mapM_toArray, Sem.run_map, h4]
      rfl
    rw [this]
    rfl
  have hv : (resV l).ev ρ = some (if h : vs.toArray.size = 1 then vs.toArray[0] else .tuple vs.toArray) := resV_ev h3
  refine ⟨_, hrun, _, rfl, H.env.env.trans (Env.putBlock w D _), x, ?_⟩
  have hlt' : ∀ j ∈ π, j < ρ.length := fun j hj => by
    have := List.all_eq_true.1 hlt j hj
    rw [hn]; simpa using this
  obtain ⟨ρ', hl, hl2⟩ := lkn_of_lt hlt'
  obtain ⟨σ0, hσ0⟩ := H.env.pre
  obtain ⟨τ, hτ⟩ := hRr
  have hσ0' : ρ = r0 ++ (τ ++ σ0) := by rw [hσ0, ← List.append_assoc, ← hτ]
  have hl' := hl
  rw [hσ0'] at hl'
  obtain ⟨σ, hσ⟩ := lkn_pre hl' hkp
  have hlen' : ρ'.length = r0.length + m x := by rw [hl2]; exact Nat.eq_of_beq_eq_true hlen
  refine ⟨σ, ?_, ?_, ?_⟩
  · rw [hσ, List.length_append] at hlen'; omega
  · rw [← hσ, (AV.ren_ev hl _ _ hrv).1]; exact hv
  · rw [← hσ, ← hlen', hl2]
    refine h2.mono fun h hh => big_pick hl π.length _ _ h (Nat.le_refl _) (fun i j hi hj => ⟨?_, ?_⟩) ?_ hh
    · have := hlt' j (List.mem_of_getElem? hj)
      rw [hn] at this; exact this
    · have := hch.get hj
      simpa using this
    · intro i i' j hi hi' h1 h2
      have hnd' := nodupB_nodup hnd
      rw [List.getElem?_eq_getElem hi] at h1
      rw [List.getElem?_eq_getElem hi'] at h2
      have : π[i] = π[i'] := by rw [Option.some.inj h1, Option.some.inj h2]
      exact (List.getElem_inj hnd').1 this
end Sx
