/- Walk of casematelaw13.BusOff. -/
import Derived.Test.YtolcobhaghdfcaaRep
namespace Go.Proofs.Ytolcobhaghdfcaa
open Sx Go
set_option maxRecDepth 100000
def cnt (l : List Ac) : Nat := (l.filter fun y => decide (ovK y ≠ 6)).length
theorem cnt_succ {l : List Ac} {t : Nat} (h : t < l.length) : cnt (l.take (t + 1)) = cnt (l.take t) + if ovK l[t] = 6 then 0 else 1 := by
  unfold cnt
  rw [List.take_add_one, List.getElem?_eq_getElem h, List.filter_append, List.length_append]
  congr 1
  by_cases h6 : ovK l[t] = 6 <;> simp [h6]
theorem cnt_le (l : List Ac) (t : Nat) : cnt (l.take t) ≤ t := by
  unfold cnt
  exact Nat.le_trans (List.length_filter_le _ _) (by simp; omega)
theorem cnt_mono (l : List Ac) (t : Nat) : cnt (l.take t) ≤ cnt l := by
  unfold cnt
  exact (List.Sublist.filter _ (List.take_sublist t l)).length_le
theorem ov_log {B : Bs} {Ms : List Mem} {C : Cl} {y : Ac} (h : ovK y ≠ 6) : (ov B Ms C y).B.log.length = B.log.length + 1 := by
  unfold ov
  split
  · simp [busLog]
  · split
    · simp [busLog]
    · split
      · simp [busLog]
      · split
        · simp [busLog]
        · simp [busLog]
theorem ov_six {B : Bs} {Ms : List Mem} {C : Cl} {y : Ac} (h : ovK y = 6) : ov B Ms C y = ⟨0, B, Ms, C⟩ := by
  unfold ov
  rw [if_neg (by omega), if_neg (by omega), if_neg (by omega), if_neg (by omega), if_pos h]
theorem rp_marks {Ms : List Mem} (e : Ent) (h : ∀ M ∈ Ms, M.marks = []) : ∀ M ∈ rp Ms e, M.marks = [] := by
  have hw : ∀ (M : Mem) (i : Int) (s : List Int), (wrM M i s).marks = M.marks := fun M i s => by unfold wrM; split <;> rfl
  have hf : ∀ M : Mem, (flM M).marks = M.marks := fun M => by unfold flM; split <;> rfl
  unfold rp
  split
  · split
    · rename_i M0 h0
      obtain ⟨_, h1, h2⟩ := sel_some h0
      have hM0 : M0.marks = [] := by rw [← h2]; exact h _ (List.getElem_mem h1)
      split
      · intro M hM
        rcases List.mem_or_eq_of_mem_set hM with hM | rfl
        · exact h M hM
        · rw [hw]; exact hM0
      · split
        · intro M hM
          rcases List.mem_or_eq_of_mem_set hM with hM | rfl
          · exact h M hM
          · rw [hf]; exact hM0
        · exact h
    · exact h
  · exact h
theorem rps_marks : ∀ (l : List Ent) (Ms : List Mem), (∀ M ∈ Ms, M.marks = []) → ∀ M ∈ l.foldl rp Ms, M.marks = []
  | [], _, h => h
  | e :: l, Ms, h => by rw [List.foldl_cons]; exact rps_marks l _ (rp_marks e h)
theorem crashL_marks : ∀ (Ms : List Mem) (p : List Int), (∀ M ∈ Ms, M.marks = []) → ∀ M ∈ crashL p Ms, M.marks = [] ∧ M.log = []
  | [], _, _, M, h => by simp [crashL] at h
  | M0 :: r, p, hm, M, h => by
    simp only [crashL, List.mem_cons] at h
    rcases h with rfl | h
    · exact ⟨hm M0 (by simp), rfl⟩
    · exact crashL_marks r _ (fun M hM => hm M (by simp [hM])) M h
theorem ov_off {B : Bs} {Ms : List Mem} {C : Cl} {y : Ac} (h : ovK y ≠ 6) (hq : ∀ s ∈ B.steps, s.at_ ≠ nowB B) (hoff : B.off = true) :
    ∃ e : Ent, ov B Ms C y = ⟨13, { B with off := true, log := B.log ++ [e] }, Ms, C⟩ := by
  have hst := quiet_st (Ms := Ms) hq
  rw [hoff] at hst
  have hl : ∀ e, busLog B Ms e = { B with off := true, log := B.log ++ [e] } := fun e => by unfold busLog; rw [hst]
  have hms : MsS B Ms = Ms := by unfold MsS; rw [hst]
  have ha : ∀ e D, (atEnt B Ms e D).err = 13 ∧ atMs B Ms e D = Ms := fun e D => by unfold atEnt atMs; rw [hms, hst]; exact ⟨rfl, rfl⟩
  unfold ov
  split
  · refine ⟨wEnt B Ms y.mem y.idx y.data, ?_⟩
    rw [hl]; unfold wEnt wMs; rw [(ha _ _).1, (ha _ _).2]
  · split
    · refine ⟨fEnt B Ms y.mem, ?_⟩
      rw [hl]; unfold fEnt fMs; rw [(ha _ _).1, (ha _ _).2]
    · split
      · refine ⟨cEnt B Ms C, ?_⟩
        rw [hl, hms]; unfold cEnt; rw [hst]; rfl
      · split
        · refine ⟨aEnt B Ms C y.label, ?_⟩
          rw [hl, hms]; unfold aEnt aCel; rw [hst]; rfl
        · refine ⟨rEnt B Ms y.mem y.idx, ?_⟩
          rw [hl]; unfold rEnt rMs; rw [(ha _ _).1, (ha _ _).2]
structure OX where
  t : Nat
  log : List Ent
  Ms : List Mem
  C : Cl
structure PX where
  t : Nat
  log : List Ent
theorem Ac.get0 (y : Ac) : y.enc[0]? = some (.int .i64 y.do_) := rfl
def cvZ : Value := .agg cv0'.enc.toArray
theorem eq69 (w : World) : (Op.equalIn 10000 69 cvZ cvZ).run Try.prog w = .ok true w := by kernel_rfl
theorem eg69 : Try.prog.eqGuardType Try.prog.depth 69 = false := by kernel_rfl
theorem ev_neq69 {p : Prop} {d : Nat} {T t2 : TypeId} {o1 o2 : Operand} {z1 z2 : Arg} {cx : Cx} {stk : List K} {fr : List (Nat × AV)} {ch : List (Nat × Chunk)} {nx : Nat} (hP : cx.P = Try.prog) (hp : p) (h1 : argOf o1 = some z1) (h2 : argOf o2 = some z2)
    (h3 : argv fr z1 = some cv0'.av) (h4 : argv fr z2 = some cv0'.av) (hG : Good cx ⟨stk, (d, .v (.bool false)) :: fr, ch, nx⟩) : EvOk cx (.op p (.other (some d) (.binOp .neq 69 o1 o2 t2) T) stk fr ch nx) := by
  refine ev_val hp (fun ρ a w x H _ _ hx hT => ⟨.bool false, rfl, ?_⟩) hG
  have e1 : a.eval o1 = cvZ := argv_int H h1 h3 rfl
  have e2 : a.eval o2 = cvZ := argv_int H h2 h4 rfl
  have hb := run_neq_struct (P := Try.prog) w 69 cv0'.enc.toArray cv0'.enc.toArray
  have he := eq69 w
  unfold cvZ at he e1 e2
  rw [he] at hb
  have hg := run_eqGuard_agg (P := Try.prog) w .neq 69 o1 o2 cv0'.enc.toArray cv0'.enc.toArray eg69
  rw [hP]
  simp only [execOp, hx, e1, e2, Sem.run_bind, hg, Result.andThen_ok, hb]
  rfl
theorem c6 (aa : Option Addr) (ac : Nat) (ys : List Ac) (hys : ∀ y ∈ ys, y.ok) (ba : Option Addr) (bc : Nat) (zl : List Ac) (hzs : ∀ y ∈ zl, y.ok) (pa : Option Addr) (pc : Nat) (ps : List Int) (hpn : pa = none → ps.length = 0 ∧ pc = 0)
    (O : HProp) (hA : ∀ h, O h → rdA aa (encA ys) h) (hB : ∀ h, O h → rdA ba (encA zl) h) (hP : ∀ h, O h → rdA pa (U8 ps) h) :
    ACtr Try.prog 6 2 [SA aa ys.length ac, SA ba zl.length bc, SA pa ps.length pc] [(1, frm O)] (fun _ : Unit => 0) (fun _ => .tt) (fun _ => [(1, frm O)]) := by
  refine act Try.func6 rfl rfl rfl A6_ok rfl fun F w0 bb => ?_
  refine on ?_
  refine ev_lt trivial (fun h1 => ?_) (fun h1 => ?_)
  · refine on ?_
    refine call_ab trivial c17 [] rfl rfl rfl rfl rfl trivial (fun _ => rfl) (fun _ => rfl) (fun _ => trivial) (fun _ => ?_)
    refine on ?_
    exact retE trivial rfl () [0, 1] rfl rfl rfl rfl ⟨_, rfl, fun ρ => rfl⟩ ⟨rfl, rfl, trivial⟩
  refine on ?_
  refine ev_lt trivial (fun h2 => ?_) (fun h2 => ?_)
  · refine on ?_
    refine call_ab trivial c17 [] rfl rfl rfl rfl rfl trivial (fun _ => rfl) (fun _ => rfl) (fun _ => trivial) (fun _ => ?_)
    refine on ?_
    exact retE trivial rfl () [0, 1] rfl rfl rfl rfl ⟨_, rfl, fun ρ => rfl⟩ ⟨rfl, rfl, trivial⟩
  refine on ?_
  refine ev_lt trivial (fun h3 => ?_) (fun h3 => ?_)
  · refine on ?_
    refine call_ab trivial c17 [] rfl rfl rfl rfl rfl trivial (fun _ => rfl) (fun _ => rfl) (fun _ => trivial) (fun _ => ?_)
    refine on ?_
    exact retE trivial rfl () [0, 1] rfl rfl rfl rfl ⟨_, rfl, fun ρ => rfl⟩ ⟨rfl, rfl, trivial⟩
  have hy : ys.length ≤ 30 := by omega
  have hz : zl.length ≤ 30 := by omega
  have hp : ps.length ≤ 200 := by omega
  have some_of : ∀ {a : Option Addr} {l : List Ac}, (∀ h, O h → rdA a (encA l) h) → ∀ h, O h → 0 < l.length → ∃ ad, a = some ad := fun hR h hh hn => rdA_some (hR h hh) (by
    rename_i l
    cases l with
    | nil => simp at hn
    | cons y r => simp [encA, Ac.enc])
  refine pureF 1 rfl rfl (q := 0 < ys.length → ∃ ad, aa = some ad) (some_of hA) fun haa => ?_
  refine pureF 1 rfl rfl (q := 0 < zl.length → ∃ ad, ba = some ad) (some_of hB) fun hba => ?_
  refine on ?_
  refine ev_loop trivial (ι := Nat) (fun t => t ≤ ys.length) (fun t => ys.length - t) (fun t => [(0, SA aa ys.length ac), (1, SA ba zl.length bc), (2, SA pa ps.length pc), (7, IA (cnt (ys.take t))), (8, IA t)])
    (fun t => [(0, frm F), (1, frm O)]) 2 0 (Nat.zero_le _) (Fit.of [0, 1] rfl rfl rfl rfl ⟨rfl, rfl, rfl, rfl, rfl, trivial⟩ ⟨rfl, rfl, trivial⟩) (fun t ht => ?_)
  refine on ?_
  refine ev_lt trivial (fun h4 => ?_) (fun h4 => ?_)
  · have h4' : t < ys.length := by omega
    obtain ⟨ad, rfl⟩ := haa (by omega)
    have hc := cnt_succ h4'
    have hcl := cnt_le ys t
    refine on ?_
    refine ev_ld1 tbl_ok ⟨trivial, by omega, h4⟩ 1 rfl rfl rfl (IA ys[t].do_) rfl (fun h hh => ?_) trivial ?_
    · rw [show ((t : Int)).toNat = t from Int.toNat_natCast t, add_add]
      exact rdA_at (hA h hh) (encA_get hys h4' (Ac.get0 _))
    refine on ?_
    refine ev_ne trivial (fun h5 => ?_) (fun h5 => ?_)
    · refine on ?_
      refine ev_lend ⟨⟨trivial, by unfold InR; omega⟩, by unfold InR; omega⟩ (t + 1) h4' (by omega) (Fit.of [0, 1] rfl rfl rfl rfl ⟨rfl, rfl, rfl, ?_, rfl, trivial⟩ ⟨rfl, rfl, trivial⟩)
      rw [hc, if_neg h5]; rfl
    · refine on ?_
      refine ev_lend ⟨trivial, by unfold InR; omega⟩ (t + 1) h4' (by omega) (Fit.of [0, 1] rfl rfl rfl rfl ⟨rfl, rfl, rfl, ?_, rfl, trivial⟩ ⟨rfl, rfl, trivial⟩)
      rw [hc, if_pos h5]; rfl
  have ht' : t = ys.length := by omega
  subst ht'
  rw [List.take_length]
  refine onc ?_
  refine ev_more trivial ?_
  generalize hn : cnt ys = n
  have hnl : n ≤ ys.length := by rw [← hn]; have := cnt_le ys ys.length; rwa [List.take_length] at this
  obtain ⟨s, hs⟩ : ∃ s : Stp, s = ⟨n, 6, 0, 0, 0, Z64, ps⟩ := ⟨_, rfl⟩
  refine own_named (sz := 70) 60 2 rfl rfl (vs := Stp.enc ⟨n, 6, 0, 0, 0, Z64, ps⟩ (pa, pc)) rfl rfl rfl (Nat.le_refl _) (by decide) (fun _ => trivial) (fun g => ?_)
  have hso : s.ok := by subst hs; exact rfl
  have hsk : s.kind = 6 := by subst hs; rfl
  have hsa : s.at_ = n := by subst hs; rfl
  have hsp : s.picks = ps := by subst hs; rfl
  have hds : dsOk [s] [(pa, pc)] := ⟨by rw [hsp]; exact hpn, by rw [hsp]; omega, hso, trivial⟩
  have hRs : ∀ h, ownH 40 70 (some ⟨g, 0, none⟩) 1 1 ((Stp.enc ⟨n, 6, 0, 0, 0, Z64, ps⟩ (pa, pc)).take (1 * 70)) h → rdA (some ⟨g, 0, none⟩) (encS [s] [(pa, pc)]) h := fun h hh => by
    have := ownH_rd hh
    subst hs
    rw [List.take_of_length_le (Nat.le_of_eq (by simp [Stp.enc]))] at this
    simpa [encS] using this
  have hPs : ∀ h, O h → ∀ (t : Nat) (h1 : t < [s].length) (h2 : t < [(pa, pc)].length), rdA [(pa, pc)][t].1 (U8 [s][t].picks) h := fun h hh t h1 h2 => by
    match t, h1, h2 with
    | 0, _, _ => subst hs; exact hP h hh
  have hokst : ∀ (now : Int), ∀ s' ∈ [s], s'.at_ = now → okS s' := fun now s' hs' _ => by
    simp only [List.mem_singleton] at hs'; subst hs'
    exact ⟨by rw [hsk]; decide, by rw [hsk]; decide⟩
  refine on ?_
  refine call_ab trivial (c18 (some ⟨g, 0, none⟩) 1 [s] [(pa, pc)] _ hRs (fun e => by cases e) hds (by simp) O hPs) [2, 1] rfl rfl rfl rfl rfl ⟨rfl, rfl, trivial⟩ (fun _ => rfl) (fun _ => rfl) (fun _ => trivial) (fun x => ?_)
  obtain ⟨x, a, b, c⟩ := x
  refine on ?_
  refine ev_loop trivial (ι := OX) (fun q => q.t ≤ ys.length ∧ q.Ms.length = 2 ∧ (∀ M ∈ q.Ms, M.marks = [] ∧ M.log.length ≤ q.t) ∧ q.log.length = cnt (ys.take q.t) ∧ q.C.past.length ≤ q.t) (fun q => ys.length - q.t)
    (fun q => [(0, SA aa ys.length ac), (1, SA ba zl.length bc), (9, PA x), (10, PA a), (11, PA b), (12, IA q.t)])
    (fun q => [(0, frm F), (1, frm O), (2, frm (busH ⟨[a, b], c, [s], false, q.log⟩ x)), (3, frm (memsH [a, b] q.Ms)), (4, frm (celH q.C c))]) 5 ⟨0, [], M00, cel0⟩ ⟨Nat.zero_le _, rfl, fun M hM => ?_, rfl, Nat.le_refl _⟩
    (Fit.of [0, 1, 3, 4, 5] rfl rfl rfl rfl ⟨rfl, rfl, rfl, rfl, rfl, rfl, trivial⟩ ⟨rfl, rfl, rfl, rfl, rfl, trivial⟩) (fun q hq => ?_)
  · simp only [List.mem_cons, List.not_mem_nil, or_false] at hM
    rcases hM with rfl | rfl <;> exact ⟨rfl, Nat.le_refl _⟩
  obtain ⟨t, log, Ms, C⟩ := q
  obtain ⟨ht, hM2, hMs, hlg, hpt⟩ := hq
  dsimp only at ht hM2 hMs hlg hpt
  have hlen : ∀ M ∈ Ms, M.log.length ≤ 1000000 := fun M hM => Nat.le_trans (hMs M hM).2 (by omega)
  have hlgl : log.length ≤ t := by rw [hlg]; exact cnt_le _ _
  refine on ?_
  refine ev_lt trivial (fun h5 => ?_) (fun h5 => ?_)
  · have h5' : t < ys.length := by dsimp only at h5; omega
    obtain ⟨ad, rfl⟩ := haa (by omega)
    have hyo := hys ys[t] (List.getElem_mem h5')
    have hcs := cnt_succ h5'
    refine on ?_
    refine ev_ldN tbl_ok ⟨trivial, by dsimp only; omega, h5⟩ 1 rfl rfl rfl (ys[t]).av (us := (ys[t]).enc) ?_ (Ac.enc_len hyo) (fun h hh => ?_) trivial ?_
    · simp only [AV.ev, Ac.evc hyo, Option.map_some]
    · dsimp only
      rw [show ((t : Int)).toNat = t from Int.toNat_natCast t]
      exact rd_at (hA h hh) rfl _ fun j u hj => encA_get hys h5' hj
    generalize hyg : ys[t] = y at hyo hcs
    have key : ∃ (log' : List Ent) (Ms' : List Mem) (C' : Cl) (err : Int), ACtr Try.prog 29 4 [PA x, y.av] (busPre ⟨[a, b], c, [s], false, log⟩ x Ms C) (fun _ : Unit => 0) (fun _ => IA err) (fun _ => busPre ⟨[a, b], c, [s], false, log'⟩ x Ms' C') ∧
        Ms'.length = 2 ∧ (∀ M ∈ Ms', M.marks = [] ∧ M.log.length ≤ t + 1) ∧ log'.length = cnt (ys.take (t + 1)) ∧ C'.past.length ≤ t + 1 := by
      have hc := c29 ⟨[a, b], c, [s], false, log⟩ x Ms C (hokst _) hlen (by dsimp only; omega) y hyo (by omega)
      by_cases h6 : ovK y = 6
      · rw [ov_six h6] at hc
        exact ⟨log, Ms, C, 0, hc, hM2, fun M hM => ⟨(hMs M hM).1, Nat.le_succ_of_le (hMs M hM).2⟩, by rw [hcs, if_pos h6]; exact hlg, by omega⟩
      · have hm := cnt_mono ys (t + 1)
        rw [hcs, if_neg h6, hn] at hm
        have hq0 : ∀ s' ∈ (Bs.mk [a, b] c [s] false log).steps, s'.at_ ≠ nowB ⟨[a, b], c, [s], false, log⟩ := fun s' hs' => by
          simp only [List.mem_singleton] at hs'; subst hs'
          have : nowB ⟨[a, b], c, [s'], false, log⟩ = (log.length : Int) := rfl
          rw [hsa, this]; omega
        obtain ⟨es, hB1, hM1, he1, _, hC'⟩ := ov_rp (Ms := Ms) C y hq0 rfl
        have hl1 := ov_log (B := ⟨[a, b], c, [s], false, log⟩) (Ms := Ms) (C := C) h6
        rw [hB1] at hl1
        rw [hB1, hM1] at hc
        refine ⟨_, _, _, _, hc, by rw [rps_len]; exact hM2, fun M hM => ⟨rps_marks es Ms (fun M hM => (hMs M hM).1) M hM, ?_⟩, ?_, by omega⟩
        · have := rps_log es Ms t (fun M hM => (hMs M hM).2) M hM
          omega
        · dsimp only at hl1
          rw [hl1, hcs, if_neg h6, hlg]
    obtain ⟨log', Ms', C', err, hc, k1, k2, k3, k4⟩ := key
    refine on ?_
    refine call_ab trivial hc [2, 3, 4] rfl rfl rfl rfl rfl ⟨rfl, rfl, rfl, trivial⟩ (fun _ => rfl) (fun _ => rfl) (fun _ => trivial) (fun _ => ?_)
    refine on ?_
    exact ev_lend ⟨trivial, by unfold InR; dsimp only; omega⟩ ⟨t + 1, log', Ms', C'⟩ ⟨h5', k1, k2, k3, k4⟩ (by dsimp only; omega) (Fit.of [0, 1, 2, 3, 4] rfl rfl rfl rfl ⟨rfl, rfl, rfl, rfl, rfl, rfl, trivial⟩ ⟨rfl, rfl, rfl, rfl, rfl, trivial⟩)
  have ht2 : t = ys.length := by dsimp only at h5; omega
  have hln : log.length = n := by rw [hlg, ht2, List.take_length, hn]
  have hst1 : stB ⟨[a, b], c, [s], false, log⟩ Ms = (true, crashL ps Ms) := by
    unfold stB stepsB
    rw [List.foldl_cons, List.foldl_nil, stp1, if_pos (by rw [hsa]; show (n : Int) = (log.length : Int); rw [hln]), stepB, if_pos hsk, hsp]
  have hcell := c32 ⟨[a, b], c, [s], false, log⟩ x Ms C (hokst _) hlen (by dsimp only; omega)
  have e1 : (cEnt ⟨[a, b], c, [s], false, log⟩ Ms C).err = 13 := by unfold cEnt; rw [hst1]; rfl
  have e2 : cVal ⟨[a, b], c, [s], false, log⟩ Ms C = cv0' := by unfold cVal; rw [hst1]; rfl
  have e3 : busLog ⟨[a, b], c, [s], false, log⟩ Ms (cEnt ⟨[a, b], c, [s], false, log⟩ Ms C) = ⟨[a, b], c, [s], true, log ++ [cEnt ⟨[a, b], c, [s], false, log⟩ Ms C]⟩ := by unfold busLog; rw [hst1]
  have e4 : MsS ⟨[a, b], c, [s], false, log⟩ Ms = crashL ps Ms := by unfold MsS; rw [hst1]
  rw [e3, e1, e2, e4] at hcell
  generalize cEnt ⟨[a, b], c, [s], false, log⟩ Ms C = ec at hcell
  obtain ⟨M, N, hMN⟩ : ∃ M N, crashL ps Ms = [M, N] := by
    match crashL ps Ms, (crashL_len Ms ps).trans hM2 with
    | [M, N], _ => exact ⟨M, N, rfl⟩
  have hcm := crashL_marks Ms ps (fun M hM => (hMs M hM).1)
  rw [hMN] at hcell hcm
  obtain ⟨hMm, hMl⟩ := hcm M (by simp)
  obtain ⟨hNm, hNl⟩ := hcm N (by simp)
  refine on ?_
  refine call_ab trivial hcell [2, 3, 4] rfl rfl rfl rfl rfl ⟨rfl, rfl, rfl, trivial⟩ (fun _ => rfl) (fun _ => rfl) (fun _ => trivial) (fun _ => ?_)
  refine on ?_
  refine ev_ne trivial (fun h => absurd rfl h) (fun _ => ?_)
  refine on ?_
  refine ev_neq69 rfl trivial rfl rfl rfl rfl ?_
  refine on ?_
  refine ev_br trivial (fun h => by cases h) (fun _ => ?_)
  refine on ?_
  refine call_ab trivial (c28 ⟨[a, b], c, [s], true, log ++ [ec]⟩ x) [2] rfl rfl rfl rfl rfl ⟨rfl, trivial⟩ (fun _ => rfl) (fun _ => rfl) (fun _ => trivial) (fun _ => ?_)
  refine on ?_
  refine ev_br trivial (fun h => by cases h) (fun _ => ?_)
  refine splitF 3 (B := memH M a) (C := memsH [b] [N]) rfl rfl trivial (fun h hh => hh) ?_
  refine splitF 3 (B := memH N b) (C := emp) rfl rfl trivial (fun h hh => hh) ?_
  refine on ?_
  refine call_ab trivial (c31 M a) [6] rfl rfl rfl rfl rfl ⟨rfl, trivial⟩ (fun _ => rfl) (fun _ => rfl) (fun _ => trivial) (fun _ => ?_)
  refine on ?_
  refine call_ab trivial (c31 N b) [7] rfl rfl rfl rfl rfl ⟨rfl, trivial⟩ (fun _ => rfl) (fun _ => rfl) (fun _ => trivial) (fun _ => ?_)
  refine on ?_
  have hM0 : M.log.length = 0 := by rw [hMl]; rfl
  have hN0 : N.log.length = 0 := by rw [hNl]; rfl
  refine ev_ne ⟨trivial, by unfold InR; omega⟩ (fun h => absurd (by omega) h) (fun _ => ?_)
  refine on ?_
  refine call_ab trivial (c19 M a hMm (by omega)) [6] rfl rfl rfl rfl rfl ⟨rfl, trivial⟩ (fun _ => rfl) (fun _ => rfl) (fun _ => trivial) (fun a1 => ?_)
  refine on ?_
  refine call_ab trivial (c19 N b hNm (by omega)) [7] rfl rfl rfl rfl rfl ⟨rfl, trivial⟩ (fun _ => rfl) (fun _ => rfl) (fun _ => trivial) (fun b1 => ?_)
  refine on ?_
  refine loop_in trivial ?_
  refine joinF 6 7 (A := memsH [a, b] [M, N]) rfl rfl rfl rfl rfl trivial (fun h hh => mems_two (star_comm hh)) ?_
  refine on ?_
  have hlenC : ∀ M' ∈ [M, N], M'.log.length ≤ 1000000 := fun M' hM' => by
    simp only [List.mem_cons, List.not_mem_nil, or_false] at hM'
    rcases hM' with rfl | rfl <;> omega
  refine ev_loop trivial (ι := PX) (fun q => q.t ≤ zl.length ∧ n < q.log.length ∧ q.log.length ≤ n + 1 + q.t) (fun q => zl.length - q.t)
    (fun q => [(1, SA ba zl.length bc), (9, PA x), (10, PA a), (11, PA b), (15, PA a1), (16, PA b1), (17, IA q.t)])
    (fun q => [(0, frm F), (1, frm O), (2, frm (busH ⟨[a, b], c, [s], true, q.log⟩ x)), (3, frm (memsH [a, b] [M, N])), (4, frm (celH C c)), (5, frm (memH M a1)), (6, frm (memH N b1))]) 7 ⟨0, log ++ [ec]⟩ ⟨Nat.zero_le _, by simp; omega, by simp; omega⟩
    (Fit.of [0, 1, 2, 6, 4, 8, 9] rfl rfl rfl rfl ⟨rfl, rfl, rfl, rfl, rfl, rfl, rfl, trivial⟩ ⟨rfl, rfl, rfl, rfl, rfl, rfl, rfl, trivial⟩) (fun q hq => ?_)
  obtain ⟨u, lg⟩ := q
  obtain ⟨hu, hlg1, hlg2⟩ := hq
  dsimp only at hu hlg1 hlg2
  have hq1 : ∀ (off : Bool), ∀ s' ∈ (Bs.mk [a, b] c [s] off lg).steps, s'.at_ ≠ nowB ⟨[a, b], c, [s], off, lg⟩ := fun off s' hs' => by
    simp only [List.mem_singleton] at hs'; subst hs'
    have : nowB ⟨[a, b], c, [s'], off, lg⟩ = (lg.length : Int) := rfl
    rw [hsa, this]; omega
  refine on ?_
  refine ev_lt trivial (fun h6 => ?_) (fun h6 => ?_)
  · have h6' : u < zl.length := by dsimp only at h6; omega
    obtain ⟨ad, rfl⟩ := hba (by omega)
    have hyo := hzs zl[u] (List.getElem_mem h6')
    refine on ?_
    refine ev_ld1 tbl_ok ⟨trivial, by dsimp only; omega, h6⟩ 1 rfl rfl rfl (IA zl[u].do_) rfl (fun h hh => ?_) trivial ?_
    · dsimp only
      rw [show ((u : Int)).toNat = u from Int.toNat_natCast u, add_add]
      exact rdA_at (hB h hh) (encA_get hzs h6' (Ac.get0 _))
    refine on ?_
    refine ev_ne trivial (fun h7 => ?_) (fun h7 => ?_)
    · refine on ?_
      refine ev_ldN tbl_ok ⟨trivial, by dsimp only; omega, h6⟩ 1 rfl rfl rfl (zl[u]).av (us := (zl[u]).enc) ?_ (Ac.enc_len hyo) (fun h hh => ?_) trivial ?_
      · simp only [AV.ev, Ac.evc hyo, Option.map_some]
      · dsimp only
        rw [show ((u : Int)).toNat = u from Int.toNat_natCast u]
        exact rd_at (hB h hh) rfl _ fun j v hj => encA_get hzs h6' hj
      have hc := c29 ⟨[a, b], c, [s], true, lg⟩ x [M, N] C (hokst _) hlenC (by dsimp only; omega) zl[u] hyo (by omega)
      obtain ⟨e, he⟩ := ov_off (B := ⟨[a, b], c, [s], true, lg⟩) (Ms := [M, N]) (C := C) (y := zl[u]) h7 (hq1 true) rfl
      rw [he] at hc
      refine on ?_
      refine call_ab trivial hc [2, 3, 4] rfl rfl rfl rfl rfl ⟨rfl, rfl, rfl, trivial⟩ (fun _ => rfl) (fun _ => rfl) (fun _ => trivial) (fun _ => ?_)
      refine on ?_
      refine ev_ne trivial (fun h => absurd rfl h) (fun _ => ?_)
      refine on ?_
      exact ev_lend ⟨trivial, by unfold InR; dsimp only; omega⟩ ⟨u + 1, lg ++ [e]⟩ ⟨h6', by simp; omega, by simp; omega⟩ (by dsimp only; omega) (Fit.of [0, 1, 2, 3, 4, 5, 6] rfl rfl rfl rfl ⟨rfl, rfl, rfl, rfl, rfl, rfl, rfl, trivial⟩ ⟨rfl, rfl, rfl, rfl, rfl, rfl, rfl, trivial⟩)
    · refine on ?_
      exact ev_lend ⟨trivial, by unfold InR; dsimp only; omega⟩ ⟨u + 1, lg⟩ ⟨h6', hlg1, by dsimp only; omega⟩ (by dsimp only; omega) (Fit.of [0, 1, 2, 3, 4, 5, 6] rfl rfl rfl rfl ⟨rfl, rfl, rfl, rfl, rfl, rfl, rfl, trivial⟩ ⟨rfl, rfl, rfl, rfl, rfl, rfl, rfl, trivial⟩)
  refine splitF 3 (B := memH M a) (C := memsH [b] [N]) rfl rfl trivial (fun h hh => hh) ?_
  refine splitF 3 (B := memH N b) (C := emp) rfl rfl trivial (fun h hh => hh) ?_
  refine on ?_
  refine ev_loop trivial (ι := Nat) (fun i => i ≤ 4) (fun i => 4 - i)
    (fun i => [(9, PA x), (10, PA a), (11, PA b), (15, PA a1), (16, PA b1), (18, IA i)])
    (fun i => [(0, frm F), (1, frm O), (2, frm (busH ⟨[a, b], c, [s], true, lg⟩ x)), (3, frm (memH M a)), (4, frm (celH C c)), (5, frm (memH M a1)), (6, frm (memH N b1)), (7, frm (memH N b))]) 8 0 (Nat.zero_le _)
    (Fit.of [0, 1, 2, 7, 4, 5, 6, 8] rfl rfl rfl rfl ⟨rfl, rfl, rfl, rfl, rfl, rfl, trivial⟩ ⟨rfl, rfl, rfl, rfl, rfl, rfl, rfl, rfl, trivial⟩) (fun i hi => ?_)
  refine on ?_
  refine ev_lt trivial (fun h7 => ?_) (fun h7 => ?_)
  · refine on ?_
    refine call_ab trivial (c25 M a i) [3] rfl rfl rfl rfl rfl ⟨rfl, trivial⟩ (fun _ => rfl) (fun _ => rfl) (fun _ => trivial) (fun _ => ?_)
    refine on ?_
    refine call_ab trivial (c25 M a1 i) [5] rfl rfl rfl rfl rfl ⟨rfl, trivial⟩ (fun _ => rfl) (fun _ => rfl) (fun _ => trivial) (fun _ => ?_)
    refine on ?_
    refine call_ab trivial (c25 N b i) [7] rfl rfl rfl rfl rfl ⟨rfl, trivial⟩ (fun _ => rfl) (fun _ => rfl) (fun _ => trivial) (fun _ => ?_)
    refine on ?_
    refine call_ab trivial (c25 N b1 i) [6] rfl rfl rfl rfl rfl ⟨rfl, trivial⟩ (fun _ => rfl) (fun _ => rfl) (fun _ => trivial) (fun _ => ?_)
    refine on ?_
    refine ev_br trivial (fun h => absurd rfl (xt h)) (fun _ => ?_)
    refine on ?_
    refine ev_br trivial (fun h => absurd rfl (xt h)) (fun _ => ?_)
    refine on ?_
    exact ev_lend ⟨trivial, by unfold InR; omega⟩ (i + 1) (by omega) (by omega) (Fit.of [0, 1, 2, 3, 4, 5, 6, 7] rfl rfl rfl rfl ⟨rfl, rfl, rfl, rfl, rfl, rfl, trivial⟩ ⟨rfl, rfl, rfl, rfl, rfl, rfl, rfl, rfl, trivial⟩)
  refine joinF 3 7 (A := memsH [a, b] [M, N]) rfl rfl rfl rfl rfl trivial (fun h hh => mems_two (star_comm hh)) ?_
  have hcell2 := c32 ⟨[a, b], c, [s], false, lg⟩ x [M, N] C (hokst _) hlenC (by dsimp only; omega)
  have hst2 := quiet_st (Ms := [M, N]) (hq1 false)
  have f1 : (cEnt ⟨[a, b], c, [s], false, lg⟩ [M, N] C).err = 0 := by unfold cEnt; rw [hst2]; rfl
  have f3 : busLog ⟨[a, b], c, [s], false, lg⟩ [M, N] (cEnt ⟨[a, b], c, [s], false, lg⟩ [M, N] C) = ⟨[a, b], c, [s], false, lg ++ [cEnt ⟨[a, b], c, [s], false, lg⟩ [M, N] C]⟩ := by unfold busLog; rw [hst2]
  rw [f3, f1] at hcell2
  generalize cEnt ⟨[a, b], c, [s], false, lg⟩ [M, N] C = ec2 at hcell2
  refine on ?_
  refine call_ab trivial (c33 ⟨[a, b], c, [s], true, lg⟩ x) [2] rfl rfl rfl rfl rfl ⟨rfl, trivial⟩ (fun _ => rfl) (fun _ => rfl) (fun _ => trivial) (fun _ => ?_)
  refine on ?_
  refine call_ab trivial hcell2 [2, 3, 4] rfl rfl rfl rfl rfl ⟨rfl, rfl, rfl, trivial⟩ (fun _ => rfl) (fun _ => rfl) (fun _ => trivial) (fun _ => ?_)
  refine on ?_
  refine ev_lt trivial (fun _ => ?_) (fun h => absurd rfl h)
  refine on ?_
  refine call_ab trivial (c28 ⟨[a, b], c, [s], false, lg ++ [ec2]⟩ x) [2] rfl rfl rfl rfl rfl ⟨rfl, trivial⟩ (fun _ => rfl) (fun _ => rfl) (fun _ => trivial) (fun _ => ?_)
  refine on ?_
  refine ev_br trivial (fun _ => ?_) (fun h => by cases h)
  refine on ?_
  refine call_ab trivial c17 [] rfl rfl rfl rfl rfl trivial (fun _ => rfl) (fun _ => rfl) (fun _ => trivial) (fun _ => ?_)
  refine on ?_
  exact retE trivial rfl () [0, 1] rfl rfl rfl rfl ⟨_, rfl, fun ρ => rfl⟩ ⟨rfl, rfl, trivial⟩
end Go.Proofs.Ytolcobhaghdfcaa
