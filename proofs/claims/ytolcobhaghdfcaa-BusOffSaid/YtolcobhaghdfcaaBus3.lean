/- Contracts of package bus: an I/O. -/
import Derived.Test.YtolcobhaghdfcaaBus2
namespace Go.Proofs.Ytolcobhaghdfcaa
open Sx Go
set_option maxRecDepth 100000
abbrev BSt := Bool × List Mem
def stp1 (now : Int) (st : BSt) (s : Stp) : BSt := if s.at_ = now then stepB s st else st
def stepsB (now : Int) (l : List Stp) (st : BSt) : BSt := l.foldl (stp1 now) st
theorem stepsB_succ {now : Int} {l : List Stp} {st : BSt} {t : Nat} (h : t < l.length) : stepsB now (l.take (t + 1)) st = stp1 now (stepsB now (l.take t) st) l[t] := by
  unfold stepsB
  rw [List.take_add_one, List.getElem?_eq_getElem h, List.foldl_append]; rfl
theorem crashL_len : ∀ (Ms : List Mem) (p : List Int), (crashL p Ms).length = Ms.length
  | [], _ => rfl
  | M :: r, p => by simp [crashL, crashL_len r]
theorem stepB_len (s : Stp) (st : BSt) : (stepB s st).2.length = st.2.length := by
  unfold stepB
  split
  · exact crashL_len _ _
  · split
    · rfl
    · split <;> simp
theorem crashL_log (n : Nat) : ∀ (Ms : List Mem) (p : List Int), ∀ M ∈ crashL p Ms, M.log.length ≤ n
  | [], _, M, h => by simp [crashL] at h
  | M0 :: r, p, M, h => by
    simp only [crashL, List.mem_cons] at h
    rcases h with rfl | h
    · simp [crM, settleM]
    · exact crashL_log n r _ M h
theorem setM_log (M : Mem) (i : Int) (s : List Int) : (setM M i s).log.length ≤ M.log.length := by
  unfold setM
  split
  · exact List.length_filter_le _ _
  · exact Nat.le_refl _
theorem stM_log (s : Stp) (M : Mem) : (stM s M).log.length ≤ M.log.length := by
  unfold stM faM
  split
  · exact setM_log _ _ _
  · split
    · exact Nat.le_refl _
    · split <;> exact Nat.le_refl _
theorem stepB_log {n : Nat} {s : Stp} {st : BSt} (h : ∀ M ∈ st.2, M.log.length ≤ n) : ∀ M ∈ (stepB s st).2, M.log.length ≤ n := by
  unfold stepB
  split
  · exact crashL_log n _ _
  · split
    · exact h
    · split
      · rename_i M0 h0
        intro M hM
        rcases List.mem_or_eq_of_mem_set hM with hM | rfl
        · exact h M hM
        · exact Nat.le_trans (stM_log _ _) (h M0 (List.mem_of_getElem? h0))
      · exact h
theorem stepsB_log {n : Nat} {now : Int} : ∀ (l : List Stp) (st : BSt), (∀ M ∈ st.2, M.log.length ≤ n) → ∀ M ∈ (stepsB now l st).2, M.log.length ≤ n
  | [], st, h => h
  | s :: r, st, h => by
    show ∀ M ∈ (stepsB now r (stp1 now st s)).2, _
    refine stepsB_log r _ ?_
    unfold stp1
    split
    · exact stepB_log h
    · exact h
theorem stepsB_len {now : Int} : ∀ (l : List Stp) (st : BSt), (stepsB now l st).2.length = st.2.length
  | [], st => rfl
  | s :: r, st => by
    show (stepsB now r (stp1 now st s)).2.length = _
    rw [stepsB_len r]
    unfold stp1
    split
    · exact stepB_len _ _
    · rfl
theorem Stp.enc_len {s : Stp} (d : Ds) (h : s.ok) : (s.enc d).length = 70 := by unfold Stp.ok at h; simp [Stp.enc, h]
theorem encS_get : ∀ {l : List Stp} {ds : List Ds} {t : Nat} {s : Stp} {d : Ds}, (∀ s ∈ l, s.ok) → l[t]? = some s → ds[t]? = some d → ∀ {j : Nat} {u : Value}, (s.enc d)[j]? = some u → (encS l ds)[t * 70 + j]? = some u
  | [], _, _, _, _, _, h, _, _, _, _ => by simp at h
  | _ :: _, [], _, _, _, _, _, h, _, _, _ => by simp at h
  | a :: l, b :: ds, 0, s, d, hok, h1, h2, j, u, hj => by
    simp at h1 h2; subst h1 h2
    simp only [encS, Nat.zero_mul, Nat.zero_add]
    rw [List.getElem?_append_left (List.getElem?_eq_some_iff.1 hj).1]; exact hj
  | a :: l, b :: ds, t + 1, s, d, hok, h1, h2, j, u, hj => by
    simp at h1 h2
    have ha := Stp.enc_len b (hok a (by simp))
    simp only [encS]
    rw [List.getElem?_append_right (by rw [ha]; omega), ha, show (t + 1) * 70 + j - 70 = t * 70 + j by omega]
    exact encS_get (fun s hs => hok s (by simp [hs])) h1 h2 hj
abbrev pkP (s : Stp) (d : Ds) : HProp := fun h => s.picks.length ≤ d.2 ∧ rdA d.1 (U8 s.picks) h
def picksX : List Stp → List Ds → Nat → HProp
  | _ :: r, _ :: t, 0 => picksH r t
  | s :: r, d :: t, i + 1 => star (pkP s d) (picksX r t i)
  | _, _, _ => lift False
theorem picks_out : ∀ {l : List Stp} {ds : List Ds} {i : Nat} {s : Stp} {d : Ds} {h : Hp}, l[i]? = some s → ds[i]? = some d → picksH l ds h → star (pkP s d) (picksX l ds i) h
  | [], _, i, _, _, _, h1, _, _ => by simp at h1
  | _ :: _, [], _, _, _, _, _, h2, _ => by simp at h2
  | a :: r, b :: t, 0, s, d, h, h1, h2, H => by simp at h1 h2; subst h1 h2; exact H
  | a :: r, b :: t, i + 1, s, d, h, h1, h2, H => by
    simp at h1 h2
    exact star_left_comm (star_mono (fun _ y => y) (fun _ y => picks_out h1 h2 y) H)
theorem picks_in : ∀ {l : List Stp} {ds : List Ds} {i : Nat} {s : Stp} {d : Ds} {h : Hp}, l[i]? = some s → ds[i]? = some d → star (pkP s d) (picksX l ds i) h → picksH l ds h
  | [], _, i, _, _, _, h1, _, _ => by simp at h1
  | _ :: _, [], _, _, _, _, _, h2, _ => by simp at h2
  | a :: r, b :: t, 0, s, d, h, h1, h2, H => by simp at h1 h2; subst h1 h2; exact H
  | a :: r, b :: t, i + 1, s, d, h, h1, h2, H => by
    simp at h1 h2
    exact star_mono (fun _ y => y) (fun _ y => picks_in h1 h2 y) (star_left_comm H)
abbrev zEnt : Ent := ⟨0, 0, 0, Z64, 0⟩
theorem row61 : RowTy Try.prog 61 64 68 96 := rowTy_of (by kernel_rfl) (by kernel_rfl) (by decide)
theorem encE_snoc (l : List Ent) (e : Ent) : encE (l ++ [e]) = encE l ++ e.enc := by simp [encE]
theorem Ent.evc {e : Ent} (h : e.ok) (ρ : List Nat) : AV.evc ρ e.cs = some e.enc := by unfold Ent.ok at h; simp [AV.evc, AV.ev1, Ent.enc, h]
theorem Ent.of_evc {e : Ent} {ρ : List Nat} {vs : List Value} (h : AV.evc ρ e.cs = some vs) : e.data.length = 64 := by
  simp only [AV.evc, AV.ev1, Option.bind_eq_some_iff, Option.map_eq_some_iff] at h
  obtain ⟨_, _, _, ⟨_, _, _, ⟨_, _, _, ⟨a, h1, _⟩, _⟩, _⟩, _⟩ := h
  split at h1
  · assumption
  · cases h1
theorem Ent.one (e : Ent) : ∀ u ∈ e.enc, u.oneCell' = true := fun u hu => by
  simp only [Ent.enc, List.mem_append, List.mem_cons, List.not_mem_nil, or_false] at hu
  rcases hu with (((rfl | rfl | rfl) | hu) | rfl)
  · rfl
  · rfl
  · rfl
  · exact ints_one _ _ u hu
  · rfl
abbrev nowB (B : Bs) : Int := B.log.length
abbrev stB (B : Bs) (Ms : List Mem) : BSt := stepsB (nowB B) B.steps (B.off, Ms)
/-- an I/O: the steps ahead, what is done (e1, err, Ms2, C2, X2: if the power is there), the log -/
theorem c81 (B : Bs) (b : Nat) (Ms : List Mem) (C : Cl) (e : Ent) (he : e.ok) (g : Nat) (caps : List AV) (X : HProp) (hcaps : ∀ π, AV.rens π caps = some caps) (hst : ∀ s ∈ B.steps, s.at_ = nowB B → okS s) (hlen : ∀ M ∈ Ms, M.log.length ≤ 1000000) (hlog : B.log.length ≤ 100000)
    (e1 : Ent) (err : Int) (Ms2 : List Mem) (C2 : Cl) (X2 : HProp)
    (hdo : (stB B Ms).1 = false → ∀ x, B.ok → ACtr Try.prog g 6 (.ptr 1 0 :: caps) [(1, .cells e.cs 64), (2, frm (busK { B with off := false } x b)), (3, frm (memsH B.bs (stB B Ms).2)), (4, frm (celH C B.cb)), (5, frm X)] (fun _ : Unit => 0) (fun _ => IA err)
      (fun _ => [(1, .cells e1.cs 64), (2, frm (busK { B with off := false } x b)), (3, frm (memsH B.bs Ms2)), (4, frm (celH C2 B.cb)), (5, frm X2)]))
    (e2 : Ent) (he2 : e2 = if (stB B Ms).1 then { e with err := 13 } else { e1 with err := err }) :
    ACtr Try.prog 81 5 [PA b, e.av, .fn (.func g) [] caps] [(1, frm (busH B b)), (2, frm (memsH B.bs Ms)), (3, frm (celH C B.cb)), (4, frm X)] (fun _ : Unit => 0) (fun _ => e2.av)
      (fun _ => [(1, frm (busH { B with off := (stB B Ms).1, log := B.log ++ [e2] } b)), (2, frm (memsH B.bs (if (stB B Ms).1 then (stB B Ms).2 else Ms2))), (3, frm (celH (if (stB B Ms).1 then C else C2) B.cb)), (4, frm (if (stB B Ms).1 then X else X2))]) := by
  refine act Try.func81 rfl rfl rfl A81_ok rfl fun F w0 bb => ?_
  refine busE 1 0 rfl rfl rfl (fun _ => trivial) fun x ok => ?_
  obtain ⟨ma, mc, sa, sc, la, lc⟩ := x
  refine on ?_
  refine loop_in trivial ?_
  refine busKL 1 5 B ⟨ma, mc, sa, sc, la, lc⟩ rfl rfl rfl rfl rfl trivial ?_
  refine recast 0 6 (c := 5) (b := b) (v' := PA b) rfl rfl rfl trivial (fun ρ hb => by simp [AV.ev, hb]) ?_
  refine exF 8 (B := fun ds : List Ds => fun h => ds.length = B.steps.length ∧ star (rdA sa (encS B.steps ds)) (picksH B.steps ds) h) rfl rfl (fun _ => trivial) (fun h hh => hh) fun ds => ?_
  refine pureF 8 rfl rfl (q := ds.length = B.steps.length) (fun h hh => hh.1) fun hds => ?_
  refine splitF 8 (B := rdA sa (encS B.steps ds)) (C := picksH B.steps ds) rfl rfl trivial (fun h hh => hh.2) ?_
  refine pureF 12 rfl rfl (q := 0 < B.steps.length → ∃ ad, sa = some ad) (fun h hh hn => rdA_some hh (by
    cases hl : B.steps with
    | nil => rw [hl] at hn; simp at hn
    | cons s r =>
      cases ds with
      | nil => rw [hl] at hds; simp at hds
      | cons d t => simp [encS, Stp.enc])) fun hsa => ?_
  refine on ?_
  refine ev_loop trivial (ι := Nat) (fun t => t ≤ B.steps.length) (fun t => B.steps.length - t)
    (fun t => [(0, PA b), (2, .fn (.func g) [] caps), (4, .ptr 5 0), (6, .ptr 6 0), (7, IA B.log.length), (18, SA sa B.steps.length sc), (19, IA B.steps.length), (20, IA t)])
    (fun t => [(0, frm F), (1, frm (busK { B with off := (stepsB (nowB B) (B.steps.take t) (B.off, Ms)).1 } ⟨ma, mc, sa, sc, la, lc⟩ b)), (2, frm (memsH B.bs (stepsB (nowB B) (B.steps.take t) (B.off, Ms)).2)), (3, frm (celH C B.cb)), (4, frm X), (5, .cells e.cs 64), (6, .cells zEnt.cs 64),
      (7, frm (rdA sa (encS B.steps ds))), (8, frm (picksH B.steps ds)), (9, frm (ownH 64 68 la B.log.length lc (encE B.log)))]) 10 0 (Nat.zero_le _)
    (Fit.of [0, 1, 2, 3, 4, 10, 11, 12, 8, 9] rfl rfl rfl rfl ⟨rfl, fitCons (renfn hcaps _) rfl ⟨rfl, rfl, rfl, rfl, rfl, rfl, trivial⟩⟩ ⟨rfl, rfl, rfl, rfl, rfl, rfl, rfl, rfl, rfl, rfl, trivial⟩) (fun t ht => ?_)
  refine on ?_
  refine ev_lt trivial (fun h3 => ?_) (fun h3 => ?_)
  · have h3' : t < B.steps.length := by omega
    obtain ⟨ad, rfl⟩ := hsa (by omega)
    have hsg : B.steps[t]? = some B.steps[t] := List.getElem?_eq_getElem h3'
    have hdg : ds[t]? = some (ds[t]'(by omega)) := List.getElem?_eq_getElem (by omega)
    have hsok := ok.2.2.2.1 _ (List.getElem_mem h3')
    have hks := hst _ (List.getElem_mem h3')
    have hsucc := stepsB_succ (now := nowB B) (st := (B.off, Ms)) h3'
    generalize hst0 : stepsB (nowB B) (B.steps.take t) (B.off, Ms) = st0
    rw [hst0] at hsucc
    have hmem : ∀ M ∈ st0.2, M.log.length ≤ 1000000 := by rw [← hst0]; exact stepsB_log _ _ hlen
    generalize hsd : B.steps[t] = s at *
    generalize hdd : ds[t]'(by omega) = d at *
    refine on ?_
    refine ev_ldN tbl_ok ⟨trivial, by omega, h3⟩ 7 rfl rfl rfl (s.av d) (us := s.enc d) ?_ (Stp.enc_len d hsok) (fun h hh => ?_) trivial ?_
    · unfold Stp.ok at hsok
      simp [AV.ev, AV.evc, AV.ev1, Stp.enc, hsok]
    · rw [show ((t : Int)).toNat = t from Int.toNat_natCast t]
      exact rd_at hh rfl _ fun j u hj => encS_get (fun s hs => ok.2.2.2.1 s hs) hsg hdg hj
    refine on ?_
    have lend : ∀ {p : Prop} {fr : List (Nat × AV)} {st1 : BSt}, p → st1 = stp1 (nowB B) st0 s → True := fun _ _ => trivial
    refine ev_lt trivial (fun h4 => ?_) (fun h4 => ?_)
    · have e1 : stp1 (nowB B) st0 s = stepB s st0 := by rw [stp1, if_pos h4]
      rw [e1] at hsucc
      refine splitF 8 (B := pkP s d) (C := picksX B.steps ds t) rfl rfl trivial (fun h hh => picks_out hsg hdg hh) ?_
      refine pureF 11 rfl rfl (q := s.picks.length ≤ d.2) (fun h hh => hh.1) fun hpd => ?_
      refine on ?_
      refine call_ab trivial (c120 { B with off := st0.1 } ⟨ma, mc, some ad, sc, la, lc⟩ ok b st0.2 s d hsok (hks h4) hpd (pkP s d) (fun h hh => hh.2) hmem) [1, 2, 11] rfl rfl rfl rfl rfl ⟨rfl, rfl, rfl, trivial⟩ (fun _ => rfl) (fun _ => rfl) (fun _ => trivial) (fun _ => ?_)
      refine joinF 8 11 (A := picksH B.steps ds) rfl rfl rfl rfl rfl trivial (fun h hh => picks_in hsg hdg hh) ?_
      refine on ?_
      refine ev_lend ⟨trivial, by unfold InR; have := ok.2.2.1; omega⟩ (t + 1) h3' (by omega) (Fit.of [0, 1, 2, 3, 4, 5, 6, 7, 8, 9] rfl rfl rfl rfl ⟨rfl, fitCons (renfn hcaps _) rfl ⟨rfl, rfl, rfl, rfl, rfl, rfl, trivial⟩⟩ ⟨rfl, ?_, ?_, rfl, rfl, rfl, rfl, rfl, rfl, rfl, trivial⟩)
      · rw [hsucc]; rfl
      · rw [hsucc]; rfl
    · have e1 : stp1 (nowB B) st0 s = st0 := by rw [stp1, if_neg h4]
      rw [e1] at hsucc
      refine on ?_
      refine ev_lend ⟨trivial, by unfold InR; have := ok.2.2.1; omega⟩ (t + 1) h3' (by omega) (Fit.of [0, 1, 2, 3, 4, 5, 6, 7, 8, 9] rfl rfl rfl rfl ⟨rfl, fitCons (renfn hcaps _) rfl ⟨rfl, rfl, rfl, rfl, rfl, rfl, trivial⟩⟩ ⟨rfl, ?_, ?_, rfl, rfl, rfl, rfl, rfl, rfl, rfl, trivial⟩)
      · rw [hsucc]; rfl
      · rw [hsucc]; rfl
  · have ht' : t = B.steps.length := by omega
    have e0 : stepsB (nowB B) (B.steps.take t) (B.off, Ms) = stB B Ms := by rw [ht', List.take_length]
    rw [e0]
    generalize hst1 : stB B Ms = st1 at hdo he2 ⊢
    obtain ⟨off1, Ms1⟩ := st1
    dsimp only at hdo he2 ⊢
    refine busKE 1 0 rfl rfl rfl trivial ?_
    refine on ?_
    refine ev_br trivial (fun h5 => ?_) (fun h5 => ?_)
    · subst h5
      simp only [if_true] at he2 ⊢
      subst he2
      have he' : Ent.ok { e with err := 13 } := he
      refine on ?_
      refine draw_ok mixed trivial O81_11_ok [(5, _), (10, _)] Q81_11_ok ⟨rfl, rfl, trivial⟩ rfl (fun ρ0 => ?_)
      refine on ?_
      refine ev_appA (us := Ent.enc { e with err := 13 }) row61 trivial 9 rfl rfl rfl rfl (src_named (cs := Ent.cs { e with err := 13 }) (vs := Ent.enc { e with err := 13 }) rfl rfl rfl (Ent.evc he' []) (fun j u h => by simpa using h)) (by unfold Ent.ok at he'; simp [Ent.enc, he']) (Ent.one _) ⟨by omega, by unfold maxLen; omega⟩ (fun _ => ⟨rfl, rfl, trivial⟩) (fun a' cap' => ?_)
      refine on ?_
      refine ret_in trivial ?_
      refine joinF 8 7 (A := stepsH sa B.steps) rfl rfl rfl rfl rfl trivial (fun h hh => ⟨ds, hds, hh⟩) ?_
      refine leave 1 10 11 [12, 8, 9] (A := busH { B with off := true, log := B.log ++ [{ e with err := 13 }] } b) (cs := [SA ma B.bs.length mc, PA B.cb, SA sa B.steps.length sc, BA true, SA a' (B.log.length + 1) cap']) (Rs := [rdA ma (B.bs.map ptrV), stepsH sa B.steps, ownH 64 68 a' (B.log.length + 1) cap' (encE B.log ++ Ent.enc { e with err := 13 })]) rfl rfl ⟨rfl, rfl, rfl, trivial⟩ ⟨_, rfl⟩ rfl rfl rfl rfl rfl trivial
        (fun h hh => ⟨⟨ma, mc, sa, sc, a', cap'⟩, ⟨ok.1, ok.2.1, ok.2.2.1, ok.2.2.2.1, fun q hq => ?_⟩, ?_⟩) ?_
      · rcases List.mem_append.1 hq with hq | hq
        · exact ok.2.2.2.2 q hq
        · simp only [List.mem_singleton] at hq; subst hq; exact he'
      · simpa only [busCs, busRs, List.length_append, List.length_cons, List.length_nil, encE_snoc, Nat.zero_add] using hh
      refine ret_out ?_
      exact retE trivial rfl () [0, 1, 2, 3, 4] rfl rfl rfl rfl ⟨_, rfl, fun ρ => rfl⟩ ⟨rfl, rfl, rfl, rfl, rfl, trivial⟩
    · subst h5
      simp only [Bool.false_eq_true, if_false] at he2 ⊢
      subst he2
      refine onc ?_
      refine ev_more trivial ?_
      refine busKL 1 10 { B with off := false } ⟨ma, mc, sa, sc, la, lc⟩ rfl rfl rfl rfl rfl trivial ?_
      refine recast 0 11 (c := 10) (b := b) (v' := PA b) rfl rfl rfl trivial (fun ρ hb => by simp [AV.ev, hb]) ?_
      refine on ?_
      refine call_ab trivial (hdo rfl ⟨ma, mc, sa, sc, la, lc⟩ ok) [5, 1, 2, 3, 4] rfl rfl rfl rfl (rens_cons rfl (hcaps _)) ⟨rfl, rfl, rfl, rfl, rfl, trivial⟩ (fun _ => rfl) (fun _ => rfl) (fun _ => trivial) (fun _ => ?_)
      refine pureC 5 rfl rfl (q := Ent.ok { e1 with err := err }) (fun ρ vs h => Ent.of_evc (e := e1) h) fun he' => ?_
      refine busKE 1 0 rfl rfl rfl trivial ?_
      refine on ?_
      refine draw_ok mixed trivial O81_11_ok [(5, _), (13, _)] Q81_11_ok ⟨rfl, rfl, trivial⟩ rfl (fun ρ0 => ?_)
      refine on ?_
      refine ev_appA (us := Ent.enc { e1 with err := err }) row61 trivial 9 rfl rfl rfl rfl (src_named (cs := Ent.cs { e1 with err := err }) (vs := Ent.enc { e1 with err := err }) rfl rfl rfl (Ent.evc he' []) (fun j u h => by simpa using h)) (by unfold Ent.ok at he'; simp [Ent.enc, he']) (Ent.one _) ⟨by omega, by unfold maxLen; omega⟩ (fun _ => ⟨rfl, rfl, trivial⟩) (fun a' cap' => ?_)
      refine on ?_
      refine ret_in trivial ?_
      refine joinF 8 7 (A := stepsH sa B.steps) rfl rfl rfl rfl rfl trivial (fun h hh => ⟨ds, hds, hh⟩) ?_
      refine leave 1 13 14 [15, 8, 9] (A := busH { B with off := false, log := B.log ++ [{ e1 with err := err }] } b) (cs := [SA ma B.bs.length mc, PA B.cb, SA sa B.steps.length sc, BA false, SA a' (B.log.length + 1) cap']) (Rs := [rdA ma (B.bs.map ptrV), stepsH sa B.steps, ownH 64 68 a' (B.log.length + 1) cap' (encE B.log ++ Ent.enc { e1 with err := err })]) rfl rfl ⟨rfl, rfl, rfl, trivial⟩ ⟨_, rfl⟩ rfl rfl rfl rfl rfl trivial
        (fun h hh => ⟨⟨ma, mc, sa, sc, a', cap'⟩, ⟨ok.1, ok.2.1, ok.2.2.1, ok.2.2.2.1, fun q hq => ?_⟩, ?_⟩) ?_
      · rcases List.mem_append.1 hq with hq | hq
        · exact ok.2.2.2.2 q hq
        · simp only [List.mem_singleton] at hq; subst hq; exact he'
      · simpa only [busCs, busRs, List.length_append, List.length_cons, List.length_nil, encE_snoc, Nat.zero_add] using hh
      refine ret_out ?_
      exact retE trivial rfl () [0, 1, 2, 3, 4] rfl rfl rfl rfl ⟨_, rfl, fun ρ => rfl⟩ ⟨rfl, rfl, rfl, rfl, rfl, trivial⟩
end Go.Proofs.Ytolcobhaghdfcaa
