/- Contracts of functions, and the rules by which a proof goes from event to event. -/
import Derived.Test.YtolcobhaghdfcaaEng2
namespace Sx
open Go

/-- A contract: called with these values, where 'pre' holds apart from F, the function returns some 'ret x', and 'post x' holds apart from F. -/
def Ctr (P : Program) (f : Nat) (args : List Value) (pre : HProp) {X : Type} (ret : X → Value) (post : X → HProp) : Prop :=
  ∀ (F : HProp) (w : World), Sat (star pre F) w → CallOk P f args w fun v w' => Env w w' ∧ ∃ x, v = ret x ∧ Sat (star (post x) F) w'
def stabK (stk : List K) (ch : List (Nat × Chunk)) : Prop := match stk with | .dops true _ sch _ _ :: _ => stab sch ch | _ => True

theorem CallOk.mono {P : Program} {f : Nat} {vs : List Value} {w : World} {R R' : Value → World → Prop} (h : CallOk P f vs w R) (hr : ∀ v w', R v w' → R' v w') : CallOk P f vs w R' := by
  rcases h with ⟨h1, h2⟩ | ⟨v, w', h1, h2⟩
  · exact .inl ⟨h1, h2.mono fun e w' ⟨v, he, hR⟩ => ⟨v, he, hr _ _ hR⟩⟩
  · exact .inr ⟨v, w', h1, hr _ _ h2⟩

theorem DrOk.next {ρ σ : List Nat} {stk : List K} {ch ch' : List (Nat × Chunk)} (h : DrOk ρ stk ch) (hs : stabK stk ch') : DrOk (ρ ++ σ) stk ch' := by
  unfold DrOk stabK at *
  split at h
  · obtain ⟨⟨τ, hρ⟩, _, hok⟩ := h
    exact ⟨⟨τ ++ σ, by rw [hρ, List.append_assoc]⟩, hs, hok⟩
  · trivial
/-- into the state behind an event: what is to be shown there -/
theorem land {cx : Cx} {ρ : List Nat} {st : St} {a : Act} {w w' : World} (H : Holds cx ρ st a w) {d : Nat} (hd : d < cx.N) {σ : List Nat} {v : AV} {y : Value} {ch' : List (Nat × Chunk)} {nx' : Nat}
    (hn : (ρ ++ σ).length = nx') (hv : v.ev (ρ ++ σ) = some y) (hs : Sat (big (ρ ++ σ) (lookc ch') nx') w') (he : Env w w') (hst : stabK st.stk ch') (hG : Good cx ⟨st.stk, (d, v) :: st.fr, ch', nx'⟩) :
    (match st.stk with | .dops true ρ0 sch _ _ :: _ => SW ρ0 sch w' | _ => True) ∧ Disp cx st.stk .normal (a.put (some d) y) w' := by
  have hdr := H.dr.next (σ := σ) hst
  refine ⟨?_, hG (ρ ++ σ) _ w' ⟨by rw [put_size]; exact H.N, by rw [put_defers]; exact H.df, hn, (H.fr.ext σ).put H.N hd hv, hs, (H.env.trans he).ext σ, hdr⟩⟩
  unfold DrOk at hdr
  split at hdr
  · rename_i heq
    rw [heq]
    obtain ⟨⟨τ, hρ⟩, h1, h2⟩ := hdr
    exact SW_of (cx := cx) (st := ⟨[], [], ch', nx'⟩) (a := a) hs hn hρ h1 h2
  · rename_i hno
    split
    · rename_i heq; exact (hno _ _ _ _ _ heq).elim
    · trivial

theorem evs_ok {cx : Cx} {ρ : List Nat} {st : St} {a : Act} {w : World} (_ : Holds cx ρ st a w) : True := trivial

/-- a call of what only computes -/
theorem call_pure {cx : Cx} {p : Prop} {d f : Nat} {args : List AV} {stk : List K} {fr : List (Nat × AV)} {ch : List (Nat × Chunk)} {nx : Nat} (hp : p) {argsV : List Value} {rv : AV} {retV : Value} (hspec : Ctr cx.P f argsV emp (fun _ : Unit => retV) (fun _ => emp))
    (hargs : AV.evs [] args = some argsV) (hret : rv.ev [] = some retV) (hst : stabK stk ch) (hG : Good cx ⟨stk, (d, rv) :: fr, ch, nx⟩) : EvOk cx (.call p d f args stk fr ch nx) := by
  refine ⟨hp, fun ρ a w H hd vs hvs => ?_⟩
  have := AV.evs_ext [] ρ _ _ hargs
  rw [List.nil_append, hvs] at this
  cases this
  refine (hspec _ w (H.sat.mono fun h hh => star_comm (star_emp hh))).mono fun v w' hR => ?_
  obtain ⟨he, _, rfl, hs⟩ := hR
  exact land (σ := []) H hd (by simpa using H.len) (by simpa using AV.ev_ext [] ρ _ _ hret) (by simpa using hs.right) he hst hG

/-- a call that turns chunk k -/
theorem call_upd {cx : Cx} {p : Prop} {d f : Nat} {args : List AV} {stk : List K} {fr : List (Nat × AV)} {ch : List (Nat × Chunk)} {nx : Nat} (hp : p) (k : Nat) {X : Type} {ret : List Nat → X → Value} {post : List Nat → X → HProp} {rv : X → AV} {c' : X → Chunk}
    (hk : Nat.blt k nx = true) (hspec : ∀ ρ vs, ρ.length = nx → AV.evs ρ args = some vs → Ctr cx.P f vs ((lookc ch k).hp ρ k) (ret ρ) (post ρ))
    (hret : ∀ ρ x, ρ.length = nx → (rv x).ev ρ = some (ret ρ x)) (hpost : ∀ ρ x h, ρ.length = nx → post ρ x h → (c' x).hp ρ k h) (hst : ∀ x, stabK stk ((k, c' x) :: ch))
    (hG : ∀ x, Good cx ⟨stk, (d, rv x) :: fr, (k, c' x) :: ch, nx⟩) : EvOk cx (.call p d f args stk fr ch nx) := by
  refine ⟨hp, fun ρ a w H hd vs hvs => ?_⟩
  have hkn : k < nx := by simpa using hk
  refine (hspec ρ vs H.len hvs _ w (H.sat.mono fun h hh => big_out hkn hh)).mono fun v w' hR => ?_
  obtain ⟨he, x, rfl, hs⟩ := hR
  refine land (σ := []) H hd (by simpa using H.len) (by simpa using hret ρ x H.len) ?_ he (hst x) (hG x)
  rw [List.append_nil, lookc_cons]
  exact hs.mono fun h hh => big_in hkn _ (star_mono (fun y hy => hpost ρ x y H.len hy) (fun _ y => y) hh)

/-- a call that turns chunk k and hands over a new block -/
theorem call_new {cx : Cx} {p : Prop} {d f : Nat} {args : List AV} {stk : List K} {fr : List (Nat × AV)} {ch : List (Nat × Chunk)} {nx : Nat} (hp : p) (k : Nat) {X : Type} {ret : List Nat → X → Value} {post : List Nat → X → HProp} {rv : X → AV} {c' n' : X → Chunk} {blk : X → Nat}
    (hk : Nat.blt k nx = true) (hspec : ∀ ρ vs, ρ.length = nx → AV.evs ρ args = some vs → Ctr cx.P f vs ((lookc ch k).hp ρ k) (ret ρ) (post ρ))
    (hret : ∀ ρ x, ρ.length = nx → (rv x).ev (ρ ++ [blk x]) = some (ret ρ x))
    (hpost : ∀ ρ x h, ρ.length = nx → post ρ x h → star ((n' x).hp (ρ ++ [blk x]) nx) ((c' x).hp (ρ ++ [blk x]) k) h) (hst : ∀ x, stabK stk ((nx, n' x) :: (k, c' x) :: ch))
    (hG : ∀ x, Good cx ⟨stk, (d, rv x) :: fr, (nx, n' x) :: (k, c' x) :: ch, nx + 1⟩) : EvOk cx (.call p d f args stk fr ch nx) := by
  refine ⟨hp, fun ρ a w H hd vs hvs => ?_⟩
  have hkn : k < nx := by simpa using hk
  refine (hspec ρ vs H.len hvs _ w (H.sat.mono fun h hh => big_out hkn hh)).mono fun v w' hR => ?_
  obtain ⟨he, x, rfl, hs⟩ := hR
  refine land (σ := [blk x]) H hd (by simp [H.len]) (hret ρ x H.len) ?_ he (hst x) (hG x)
  refine hs.mono fun h hh => ?_
  simp only [big, lookc_cons, upd_same]
  have h1 := star_assoc (star_mono (fun y hy => hpost ρ x y H.len hy) (fun _ y => y) hh)
  refine star_mono (fun _ y => y) (fun y hy => ?_) h1
  rw [big_congr (g' := upd (lookc ch) k (c' x)) (fun i hi => by simp [upd, Nat.ne_of_lt hi])]
  exact big_in hkn _ (star_mono (fun _ y => y) (fun _ y => big_ext y) hy)

/-! ### the end of a function -/
def resA (tb : Tb) (fr : List (Nat × AV)) (ch : List (Nat × Chunk)) : List ResultVar → Option (List AV)
  | [] => some []
  | .tmp t :: r => match look fr t with | some v => (match resA tb fr ch r with | some l => some (v :: l) | none => none) | none => none
  | .cell t T :: r => match look fr t, tget tb T with
    | some (.ptr c off), some i => (match lookc ch c with
      | .cells cs _ => (match (bif i.agg then (match skipN cs off with | some r => (match takeN r i.size [] with | some l => some (mkAgg l) | none => none) | none => none) else oneN cs off) with
        | some v => (match resA tb fr ch r with | some l => some (v :: l) | none => none)
        | none => none)
      | _ => none)
    | _, _ => none
def resV : List AV → AV
  | [v] => v
  | l => .tup l

def resM (tmps : Array Value) : ResultVar → Sem Value
  | .tmp t => pure (tmps.getD t undef)
  | .cell a t => do loadVar t (← asAddr (tmps.getD a undef))
theorem results_eq (fn : Func) (tmps : Array Value) : results fn tmps = (do let vs ← fn.results.mapM (resM tmps); pure (if h : vs.size = 1 then vs[0] else .tuple vs)) := rfl
theorem resA_ok {P : Program} {tb : Tb} (ht : tbOk P tb = true) {ρ : List Nat} {fr : List (Nat × AV)} {ch : List (Nat × Chunk)} {nx : Nat} {a : Act} {w : World} (H : FrOk ρ fr a) (hn : ρ.length = nx) (hs : Each ρ ch nx w) :
    ∀ {rs : List ResultVar} {l : List AV}, resA tb fr ch rs = some l → ∃ vs, AV.evs ρ l = some vs ∧
      (rs.mapM (resM a.tmps)).run P w = .ok vs w
  | [], l, h => by simp only [resA, Option.some.injEq] at h; subst h; exact ⟨[], rfl, by simp⟩
  | .tmp t :: r, l, h => by
    simp only [resA] at h
    split at h
    · rename_i v hv
      split at h
      · rename_i u hu
        cases h
        obtain ⟨vs, h1, h2⟩ := resA_ok ht H hn hs hu
        obtain ⟨x, h3, h4⟩ := H t v hv
        refine ⟨x :: vs, by simp [AV.evs, h3, h1], ?_⟩
        have e : (resM a.tmps (.tmp t)).run P w = .ok x w := by simp [resM, Array.getD_eq_getD_getElem?, h4]
        simp only [List.mapM_cons, Sem.run_bind, Sem.run_pure, Result.andThen_ok, h2, e]
      · cases h
    · cases h
  | .cell t T :: r, l, h => by
    simp only [resA] at h
    split at h
    · rename_i c off i hl hT
      split at h
      · rename_i cs T' hc
        split at h
        · rename_i v hv
          split at h
          · rename_i u hu
            cases h
            obtain ⟨vs, h1, h2⟩ := resA_ok ht H hn hs hu
            obtain ⟨x, h3, h4⟩ := H t _ hl
            simp only [AV.ev, Option.map_eq_some_iff] at h3
            obtain ⟨b, hb, rfl⟩ := h3
            obtain ⟨ws, hws, hw⟩ := hs.cells hn hb hc
            have hti := tget_is ht hT
            have : ∃ y, v.ev ρ = some y ∧ (loadVar T ⟨b, off, none⟩).run P w = .ok y w := by
              cases hag : i.agg
              · rw [hag] at hv
                obtain ⟨y, h5, h6⟩ := oneN_spec hv hws
                exact ⟨y, h6, run_loadVar_one hti hag hw h5⟩
              · rw [hag] at hv
                simp only [cond_true] at hv
                split at hv
                · rename_i r' hr'
                  split at hv
                  · rename_i l' hl'
                    cases hv
                    obtain ⟨h5, h6⟩ := skipN_spec hr' hws
                    obtain ⟨h7, h8⟩ := takeN_spec hl' h6 (show AV.evc ρ [] = some [] from rfl)
                    exact ⟨_, mkAgg_ev h8, run_loadVar_agg hti hag hw (by simp at h7; omega)⟩
                  · cases hv
                · cases hv
            obtain ⟨y, h5, h6⟩ := this
            refine ⟨y :: vs, by simp [AV.evs, h5, h1], ?_⟩
            have e : (resM a.tmps (.cell t T)).run P w = .ok y w := by simp [resM, Array.getD_eq_getD_getElem?, h4, asAddr, h6]
            simp only [List.mapM_cons, Sem.run_bind, Sem.run_pure, Result.andThen_ok, h2, e]
          · cases h
        · cases h
      · cases h
    · cases h

theorem resV_ev {ρ : List Nat} {l : List AV} {vs : List Value} (h1 : AV.evs ρ l = some vs) : (resV l).ev ρ = some (if h : vs.toArray.size = 1 then vs.toArray[0] else .tuple vs.toArray) := by
    unfold resV
    split
    · rename_i v
      simp only [AV.evs, Option.bind_eq_some_iff, Option.map_eq_some_iff, Option.some.injEq] at h1
      obtain ⟨y, hy, z, rfl, rfl⟩ := h1
      simp [hy]
    · rename_i hne
      have hl : vs.length = l.length := by
        clear hne
        induction l generalizing vs with
        | nil => simp only [AV.evs, Option.some.injEq] at h1; subst h1; rfl
        | cons c r ih =>
          simp only [AV.evs, Option.bind_eq_some_iff, Option.map_eq_some_iff] at h1
          obtain ⟨y, hy, z, hz, rfl⟩ := h1
          simp [ih hz]
      have : ¬ vs.toArray.size = 1 := by
        intro h1'
        simp at h1'
        rw [hl] at h1'
        obtain ⟨v, rfl⟩ := List.length_eq_one_iff.1 h1'
        exact hne v rfl
      simp [AV.ev, h1]
      intro h1'
      exact absurd (by simpa using h1') this
/-- the event of a return, in a function's body -/
theorem ret_ok {P : Program} {tb : Tb} {N : Nat} {fn : Func} {R : Ending → World → Prop} {w0 : World} {r0 : List Nat} (ht : tbOk P tb = true) {p : Prop} {st : St} (hp : p) {l : List AV} (hres : resA tb st.fr st.ch fn.results.toList = some l)
    (h : ∀ ρ w y, ρ.length = st.nx → (resV l).ev ρ = some y → Sat (big ρ (lookc st.ch) st.nx) w → EnvP ⟨P, tb, N, bodyPost P fn R, w0, r0, [], none⟩ ρ w → R (.returned y) w) :
    (∀ e, e = .ret ∨ e = .normal → p ∧ ∀ ρ a w, Holds ⟨P, tb, N, bodyPost P fn R, w0, r0, [], none⟩ ρ st a w → bodyPost P fn R e a w) := by
  intro e he
  refine ⟨hp, fun ρ a w H => ?_⟩
  obtain ⟨vs, h1, h2⟩ := resA_ok ht H.fr H.len H.sat.each hres
  have hrun : (results fn a.tmps).run P w = .ok (if h : vs.toArray.size = 1 then vs.toArray[0] else .tuple vs.toArray) w := by
    rw [results_eq, Sem.run_bind]
    have : (fn.results.mapM (resM a.tmps)).run P w = .ok vs.toArray w := by
      rw [← Array.toArray_toList (xs := fn.results)]
      simp only [List.mapM_toArray, Sem.run_map, h2]
      rfl
    rw [this]
    rfl
  have hv := resV_ev h1
  have hR := h ρ w _ H.len hv H.sat H.env
  rcases he with rfl | rfl <;> exact ⟨H.df, _, hrun, hR⟩

/-! ### from a body's machine to a contract -/
def frOf : Nat → List AV → List (Nat × AV)
  | _, [] => []
  | i, v :: r => (i, v) :: frOf (i + 1) r
theorem frOf_ok {ρ : List Nat} : ∀ {avs : List AV} {args : List Value} {i s : Nat} {v : AV}, AV.evs ρ avs = some args → look (frOf i avs) s = some v → ∃ x, v.ev ρ = some x ∧ i ≤ s ∧ args[s - i]? = some x
  | [], _, _, _, _, _, h => by simp [frOf, look] at h
  | c :: r, args, i, s, v, ha, h => by
    simp only [AV.evs, Option.bind_eq_some_iff, Option.map_eq_some_iff] at ha
    obtain ⟨y, hy, z, hz, rfl⟩ := ha
    by_cases e : i = s
    · subst e
      simp only [frOf, look_cons_same, Option.some.injEq] at h
      subst h
      exact ⟨y, hy, Nat.le_refl _, by simp⟩
    · simp only [frOf, look_cons_ne e] at h
      obtain ⟨x, h1, h2, h3⟩ := frOf_ok hz h
      refine ⟨x, h1, by omega, ?_⟩
      rw [show s - i = (s - (i + 1)) + 1 by omega]
      simpa using h3
def postOf {X : Type} (F : HProp) (w0 : World) (ret : X → Value) (post : X → HProp) : Ending → World → Prop :=
  fun e w' => ∃ v, e = .returned v ∧ Env w0 w' ∧ ∃ x, v = ret x ∧ Sat (star (post x) F) w'
/-- the frame, as the block-less name 0 -/
def frm (F : HProp) : Chunk := .pred [] fun _ => F
theorem evs_length {ρ : List Nat} : ∀ {l : List AV} {vs : List Value}, AV.evs ρ l = some vs → vs.length = l.length
  | [], vs, h => by simp only [AV.evs, Option.some.injEq] at h; subst h; rfl
  | c :: r, vs, h => by
    simp only [AV.evs, Option.bind_eq_some_iff, Option.map_eq_some_iff] at h
    obtain ⟨y, hy, z, hz, rfl⟩ := h
    simp [evs_length hz]
theorem ctr_of {P : Program} {tb : Tb} {f : Nat} {fn : Func} {ac : ACode} (hf : P.funcs[f]? = some fn) (hb' : fn.body.isSome = true) (hnm : (fn.name == "runtime.NumGoroutine") = false) {N : Nat} (hNt : fn.ntmps = N) (hc : comp tb N (fn.body.getD .skip) = some ac)
    {args : List Value} {pre : HProp} {X : Type} {ret : X → Value} {post : X → HProp} (names : List Nat) (avs : List AV) (cs : List (Nat × Chunk)) (hN : Nat.ble avs.length N = true)
    (hargs : AV.evs (0 :: names) avs = some args) (hpre : ∀ F h, star pre F h → big (0 :: names) (lookc ((0, frm F) :: cs)) (names.length + 1) h)
    (n fr : _) (hn : n = names.length + 1) (hfr : fr = frOf 0 avs) (hgood : ∀ (F : HProp) (w0 : World), Good ⟨P, tb, N, bodyPost P fn (postOf F w0 ret post), w0, [], [], none⟩ ⟨[.code ac], fr, (0, frm F) :: cs, n⟩) : Ctr P f args pre ret post := by
  subst hNt hn hfr
  intro F w hs
  obtain ⟨c, hb⟩ := Option.isSome_iff_exists.1 hb'
  rw [hb, Option.getD_some] at hc
  refine .inl ⟨?_, ?_⟩
  · have hnm' : ¬ fn.name = "runtime.NumGoroutine" := by simpa using hnm
    simp [callFunc, hf, hnm', hb]
  · have hlen := evs_length hargs
    have hN' : avs.length ≤ fn.ntmps := Nat.le_of_ble_eq_true hN
    refine calls_of_wp hf hb (wpIn_wide (n := 0).1 ?_)
    have hD := hgood F w (0 :: names) { tmps := args.toArray ++ Array.replicate (fn.ntmps - args.toArray.size) undef, defers := [] } w
      ⟨by simp; omega, rfl, by simp, ?_, hs.mono fun h hh => hpre F h hh, ⟨Env.refl w, ⟨_, rfl⟩⟩, trivial⟩ c hc
    · refine wpIn_mono hD fun e a w' hh => ?_
      cases e with
      | normal => exact hh
      | ret => exact hh
      | exit id => exact hh.elim
      | goto l => exact hh.elim
      | panic c => exact hh.elim
      | outgrown => exact hh.elim
    · intro s v hv
      obtain ⟨x, h1, _, h3⟩ := frOf_ok hargs hv
      refine ⟨x, h1, ?_⟩
      have hlt : s < args.length := by
        have := (List.getElem?_eq_some_iff.1 h3).1
        omega
      rw [Array.getElem?_append_left (by simpa using hlt)]
      simpa using h3

/-- on, to the next event -/
theorem go {cx : Cx} (ht : tbOk cx.P cx.tb = true) {stk : List K} {fr : List (Nat × AV)} {ch : List (Nat × Chunk)} {nx : Nat} (h : EvOk cx (next false 300 True stk fr ch nx)) : Good cx ⟨stk, fr, ch, nx⟩ := (next_ok ht false _ _ _ _ _ _ h).2
theorem ev_br {cx : Cx} {p : Prop} {s : Nat} {b : Bool} {stk : List K} {fr : List (Nat × AV)} {ch : List (Nat × Chunk)} {nx : Nat} (hp : p) (h1 : b = true → Good cx ⟨stk, (s, .tt) :: fr, ch, nx⟩) (h2 : b = false → Good cx ⟨stk, (s, .ff) :: fr, ch, nx⟩) :
    EvOk cx (.br p s b stk fr ch nx) := ⟨hp, h1, h2⟩

theorem big_zero {ρ : List Nat} {g : Nat → Chunk} {n : Nat} {F : HProp} {h : Hp} (hn : 0 < n) (h0 : g 0 = frm F) (H : big ρ g n h) : star emp F h := by
  have := big_out hn H
  rw [h0] at this
  exact star_comm (star_mono (fun x hx => by obtain ⟨_, _, hx⟩ := hx; exact hx) (fun _ _ => trivial) this)
/-- a return of what only computes -/
theorem ret_pure {P : Program} {tb : Tb} {N : Nat} {fn : Func} {w0 : World} {r0 : List Nat} {F : HProp} (ht : tbOk P tb = true) {p : Prop} {stk : List K} {fr : List (Nat × AV)} {ch : List (Nat × Chunk)} {nx : Nat} (hp : p) {retV : Value} {l : List AV} (hres : resA tb fr ch fn.results.toList = some l)
    (hv : (resV l).ev [] = some retV) (h0 : lookc ch 0 = frm F) (hnx : Nat.blt 0 nx = true) :
    EvOk ⟨P, tb, N, bodyPost P fn (postOf F w0 (fun _ : Unit => retV) fun _ => emp), w0, r0, [], none⟩ (.ret p stk fr ch nx) := by
  refine ret_ok (st := ⟨stk, fr, ch, nx⟩) ht hp hres (fun ρ w y hn hy hs he => ⟨y, rfl, he.env, (), ?_, hs.mono fun h hh => big_zero (by simpa using hnx) h0 hh⟩) .ret (.inl rfl)
  have := AV.ev_ext [] ρ _ _ hv
  rw [List.nil_append, hy] at this
  cases this; rfl
/-- a return, in general -/
theorem ret_gen {P : Program} {tb : Tb} {N : Nat} {fn : Func} {w0 : World} {r0 : List Nat} {F : HProp} {X : Type} {ret : X → Value} {post : X → HProp} (ht : tbOk P tb = true) {p : Prop} {stk : List K} {fr : List (Nat × AV)} {ch : List (Nat × Chunk)} {nx : Nat} (hp : p) {l : List AV} (hres : resA tb fr ch fn.results.toList = some l)
    (h : ∀ ρ y, ρ.length = nx → (resV l).ev ρ = some y → ∃ x, y = ret x ∧ ∀ h, big ρ (lookc ch) nx h → star (post x) F h) :
    EvOk ⟨P, tb, N, bodyPost P fn (postOf F w0 ret post), w0, r0, [], none⟩ (.ret p stk fr ch nx) :=
  ret_ok (st := ⟨stk, fr, ch, nx⟩) ht hp hres (fun ρ w y hn hy hs he => let ⟨x, hx, hh⟩ := h ρ y hn hy; ⟨y, rfl, he.env, x, hx, hs.mono hh⟩) .ret (.inl rfl)

theorem pre_emp (F : HProp) (h : Hp) (H : star emp F h) : big [0] (lookc [(0, frm F)]) 1 h :=
  star_comm (star_mono (fun _ x => x) (fun _ x => ⟨[], rfl, x⟩) H)
end Sx
