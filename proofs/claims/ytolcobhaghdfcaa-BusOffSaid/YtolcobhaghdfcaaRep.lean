/- Walk of casematelaw13.BusReplay. -/
import Derived.Test.YtolcobhaghdfcaaOvr
namespace Go.Proofs.Ytolcobhaghdfcaa
open Sx Go
set_option maxRecDepth 100000
/-- an entry of a log, done again -/
def rp (Ms : List Mem) (e : Ent) : List Mem :=
  if e.err = 0 then
    match selM Ms e.mem with
    | some M => if e.do_ = 2 then Ms.set e.mem.toNat (wrM M e.idx e.data) else if e.do_ = 3 then Ms.set e.mem.toNat (flM M) else Ms
    | none => Ms
  else Ms
def gdE (n : Nat) (e : Ent) : Prop := e.err = 0 → (e.do_ = 2 ∨ e.do_ = 3) → 0 ≤ e.mem ∧ e.mem.toNat < n
theorem sel_some {Ms : List Mem} {i : Int} {M : Mem} (h : selM Ms i = some M) : 0 ≤ i ∧ ∃ h : i.toNat < Ms.length, Ms[i.toNat] = M := by
  unfold selM at h
  split at h
  · rename_i h0
    obtain ⟨h1, h2⟩ := List.getElem?_eq_some_iff.1 h
    exact ⟨h0, h1, h2⟩
  · cases h
theorem set_same {Ms : List Mem} {i : Nat} {M : Mem} (h : ∃ h : i < Ms.length, Ms[i] = M) : Ms.set i M = Ms := by
  obtain ⟨h, rfl⟩ := h
  exact List.set_getElem_self h
theorem rp_len (Ms : List Mem) (e : Ent) : (rp Ms e).length = Ms.length := by
  unfold rp
  split
  · split
    · split
      · simp
      · split <;> simp
    · rfl
  · rfl
theorem wrM_log (M : Mem) (i : Int) (s : List Int) : (wrM M i s).log.length ≤ M.log.length + 1 := by
  unfold wrM; split
  · simp
  · omega
theorem flM_log (M : Mem) : (flM M).log.length ≤ M.log.length + 1 := by
  unfold flM; split
  · simp [settleM]
  · omega
theorem rp_log {n : Nat} {Ms : List Mem} (e : Ent) (h : ∀ M ∈ Ms, M.log.length ≤ n) : ∀ M ∈ rp Ms e, M.log.length ≤ n + 1 := by
  have h' : ∀ M ∈ Ms, M.log.length ≤ n + 1 := fun M hM => Nat.le_succ_of_le (h M hM)
  unfold rp
  split
  · split
    · rename_i M0 h0
      obtain ⟨_, h1, h2⟩ := sel_some h0
      have hM0 : M0.log.length ≤ n := by rw [← h2]; exact h _ (List.getElem_mem h1)
      split
      · intro M hM
        rcases List.mem_or_eq_of_mem_set hM with hM | rfl
        · exact h' M hM
        · exact Nat.le_trans (wrM_log _ _ _) (by omega)
      · split
        · intro M hM
          rcases List.mem_or_eq_of_mem_set hM with hM | rfl
          · exact h' M hM
          · exact Nat.le_trans (flM_log _) (by omega)
        · exact h'
    · exact h'
  · exact h'
theorem rps_len : ∀ (l : List Ent) (Ms : List Mem), (l.foldl rp Ms).length = Ms.length
  | [], _ => rfl
  | e :: l, Ms => by rw [List.foldl_cons, rps_len l, rp_len]
theorem rps_log : ∀ (l : List Ent) (Ms : List Mem) (n : Nat), (∀ M ∈ Ms, M.log.length ≤ n) → ∀ M ∈ l.foldl rp Ms, M.log.length ≤ n + l.length
  | [], _, _, h => h
  | e :: l, Ms, n, h => by
    rw [List.foldl_cons]
    have := rps_log l (rp Ms e) (n + 1) (rp_log e h)
    intro M hM
    have := this M hM
    simp only [List.length_cons]; omega
theorem at_quiet {B : Bs} {Ms : List Mem} (hq : ∀ s ∈ B.steps, s.at_ ≠ nowB B) (hoff : B.off = false) (e : Ent) (D : Dm) : atEnt B Ms e D = { atE D e Ms with err := atR D e Ms } ∧ atMs B Ms e D = atM D e Ms := by
  have h := quiet_st (Ms := Ms) hq
  unfold atEnt atMs MsS
  rw [h, hoff]
  exact ⟨rfl, rfl⟩
theorem ov_rp {B : Bs} {Ms : List Mem} (C : Cl) (y : Ac) (hq : ∀ s ∈ B.steps, s.at_ ≠ nowB B) (hoff : B.off = false) :
    ∃ es : List Ent, (ov B Ms C y).B = { B with off := false, log := B.log ++ es } ∧ (ov B Ms C y).Ms = es.foldl rp Ms ∧ es.length ≤ 1 ∧ (∀ e ∈ es, gdE Ms.length e) ∧ (ov B Ms C y).C.past.length ≤ C.past.length + 1 := by
  have hst := quiet_st (Ms := Ms) hq
  have hlog : ∀ e, busLog B Ms e = { B with off := false, log := B.log ++ [e] } := fun e => q_log hq hoff e
  have hms : MsS B Ms = Ms := by unfold MsS; rw [hst]
  unfold ov
  split
  · refine ⟨[wEnt B Ms y.mem y.idx y.data], hlog _, ?_, Nat.le_refl _, fun e he => ?_, Nat.le_succ _⟩
    · show wMs B Ms y.mem y.idx y.data = rp Ms (wEnt B Ms y.mem y.idx y.data)
      unfold wMs wEnt
      rw [(at_quiet hq hoff _ _).1, (at_quiet hq hoff _ _).2]
      unfold atM atE atR rp
      cases hs : selM Ms (eW y.mem y.idx y.data).mem with
      | none => simp
      | some M =>
        have hs' : selM Ms y.mem = some M := hs
        simp only [dW, hs', if_true]
        split
        · rfl
        · rename_i hne
          have : wrM M y.idx y.data = M := by rw [wrM, if_neg hne]
          rw [this]
          exact set_same (sel_some hs').2
    · simp only [List.mem_singleton] at he; subst he
      intro h0 _
      unfold wEnt at h0 ⊢
      rw [(at_quiet hq hoff _ _).1] at h0 ⊢
      unfold atE atR at h0 ⊢
      cases hs : selM Ms (eW y.mem y.idx y.data).mem with
      | none => rw [hs] at h0; simp at h0
      | some M =>
        obtain ⟨h1, h2, _⟩ := sel_some hs
        exact ⟨h1, h2⟩
  · split
    · refine ⟨[fEnt B Ms y.mem], hlog _, ?_, Nat.le_refl _, fun e he => ?_, Nat.le_succ _⟩
      · show fMs B Ms y.mem = rp Ms (fEnt B Ms y.mem)
        unfold fMs fEnt
        rw [(at_quiet hq hoff _ _).1, (at_quiet hq hoff _ _).2]
        unfold atM atE atR rp
        cases hs : selM Ms (eF y.mem).mem with
        | none => simp
        | some M =>
          have hs' : selM Ms y.mem = some M := hs
          simp only [dF, hs', if_true]
          split
          · rfl
          · rename_i hne
            have : flM M = M := by rw [flM, if_neg hne]
            rw [this]
            exact set_same (sel_some hs').2
      · simp only [List.mem_singleton] at he; subst he
        intro h0 _
        unfold fEnt at h0 ⊢
        rw [(at_quiet hq hoff _ _).1] at h0 ⊢
        unfold atE atR at h0 ⊢
        cases hs : selM Ms (eF y.mem).mem with
        | none => rw [hs] at h0; simp at h0
        | some M =>
          obtain ⟨h1, h2, _⟩ := sel_some hs
          exact ⟨h1, h2⟩
    · split
      · have hc : cEnt B Ms C = { ({ cE0 with data := lab64 C.now.label cE0.data } : Ent) with err := 0 } := by unfold cEnt; rw [hst, hoff]; rfl
        refine ⟨[cEnt B Ms C], hlog _, ?_, Nat.le_refl _, fun e he => ?_, Nat.le_succ _⟩
        · show MsS B Ms = rp Ms (cEnt B Ms C)
          rw [hms, hc]
          unfold rp
          split
          · split <;> rfl
          · rfl
        · simp only [List.mem_singleton] at he; subst he
          rw [hc]
          intro _ h
          rcases h with h | h <;> exact absurd h (by simp [cE0])
      · split
        · have hc : aEnt B Ms C y.label = { aE0 y.label with err := advE C } := by unfold aEnt; rw [hst, hoff]; rfl
          refine ⟨[aEnt B Ms C y.label], hlog _, ?_, Nat.le_refl _, fun e he => ?_, ?_⟩
          · show MsS B Ms = rp Ms (aEnt B Ms C y.label)
            rw [hms, hc]
            unfold rp
            split
            · split <;> rfl
            · rfl
          · simp only [List.mem_singleton] at he; subst he
            rw [hc]
            intro _ h
            rcases h with h | h <;> exact absurd h (by simp [aE0])
          · show (aCel B Ms C y.label).past.length ≤ _
            unfold aCel advC
            split
            · exact Nat.le_succ _
            · split
              · exact Nat.le_succ _
              · simp
        · split
          · refine ⟨[], ?_, rfl, Nat.zero_le _, fun e he => (by cases he), Nat.le_succ _⟩
            show B = _
            rw [List.append_nil, ← hoff]
          · refine ⟨[rEnt B Ms y.mem y.idx], hlog _, ?_, Nat.le_refl _, fun e he => ?_, Nat.le_succ _⟩
            · show rMs B Ms y.mem y.idx = rp Ms (rEnt B Ms y.mem y.idx)
              unfold rMs rEnt
              rw [(at_quiet hq hoff _ _).1, (at_quiet hq hoff _ _).2]
              unfold atM atE atR rp
              cases hs : selM Ms (eR y.mem y.idx).mem with
              | none => simp
              | some M =>
                have hs' : selM Ms y.mem = some M := hs
                simp only [dR, hs']
                rw [set_same (sel_some hs').2]
                split
                · simp
                · rfl
            · simp only [List.mem_singleton] at he; subst he
              intro h0 hd
              unfold rEnt at h0 hd ⊢
              rw [(at_quiet hq hoff _ _).1] at h0 hd ⊢
              unfold atE atR at h0 hd ⊢
              cases hs : selM Ms (eR y.mem y.idx).mem with
              | none => rw [hs] at h0; simp at h0
              | some M =>
                obtain ⟨h1, h2, _⟩ := sel_some hs
                exact ⟨h1, h2⟩
abbrev M00 : List Mem := [newM 4, newM 4]
theorem M00_log : ∀ M ∈ M00, M.log.length ≤ 0 := fun M hM => by
  simp only [List.mem_cons, List.not_mem_nil, or_false] at hM
  rcases hM with rfl | rfl <;> exact Nat.le_refl _
structure RX where
  t : Nat
  log : List Ent
  C : Cl
theorem Ent.get (e : Ent) (he : e.ok) : e.enc[67]? = some (.int .i64 e.err) ∧ e.enc[0]? = some (.int .i64 e.do_) ∧ e.enc[1]? = some (.int .i64 e.mem) ∧ e.enc[2]? = some (.int .i64 e.idx) ∧ ∀ (j : Nat) (u : Value), (e.data.map (Value.int .u8))[j]? = some u → e.enc[3 + j]? = some u := by
  unfold Ent.ok at he
  refine ⟨?_, rfl, rfl, rfl, fun j u hj => ?_⟩
  · unfold Ent.enc
    rw [List.getElem?_append_right (by simp [he])]
    simp [he]
  · unfold Ent.enc
    have hj1 := (List.getElem?_eq_some_iff.1 hj).1
    rw [List.append_assoc, List.getElem?_append_right (by simp), List.getElem?_append_left (by simpa using hj1)]
    simpa using hj
theorem c5 (aa : Option Addr) (ac : Nat) (ys : List Ac) (hys : ∀ y ∈ ys, y.ok) (O : HProp) (hA : ∀ h, O h → rdA aa (encA ys) h) :
    ACtr Try.prog 5 2 [SA aa ys.length ac] [(1, frm O)] (fun _ : Unit => 0) (fun _ => .tt) (fun _ => [(1, frm O)]) := by
  refine act Try.func5 rfl rfl rfl A5_ok rfl fun F w0 bb => ?_
  refine on ?_
  refine ev_lt trivial (fun h1 => ?_) (fun h1 => ?_)
  · refine on ?_
    refine call_ab trivial c17 [] rfl rfl rfl rfl rfl trivial (fun _ => rfl) (fun _ => rfl) (fun _ => trivial) (fun _ => ?_)
    refine on ?_
    exact retE trivial rfl () [0, 1] rfl rfl rfl rfl ⟨_, rfl, fun ρ => rfl⟩ ⟨rfl, rfl, trivial⟩
  have hy : ys.length ≤ 60 := by omega
  refine newE trivial ?_
  refine newE trivial ?_
  refine on ?_
  have two := c18 none 0 [] [] emp (fun h _ j v hj => by simp [encS] at hj) (fun _ => ⟨rfl, rfl⟩) trivial (by decide) emp (fun h _ t h1 => absurd h1 (by simp))
  refine call_ab trivial two [2, 3] rfl rfl rfl rfl rfl ⟨rfl, rfl, trivial⟩ (fun _ => rfl) (fun _ => rfl) (fun _ => trivial) (fun x => ?_)
  obtain ⟨x, a, b, c⟩ := x
  refine pureF 1 rfl rfl (q := 0 < ys.length → ∃ ad, aa = some ad) (fun h hh hn => rdA_some (hA h hh) (by
    cases ys with
    | nil => simp at hn
    | cons y r => simp [encA, Ac.enc])) fun haa => ?_
  refine on ?_
  refine ev_loop trivial (ι := RX) (fun q => q.t ≤ ys.length ∧ q.log.length ≤ q.t ∧ (∀ e ∈ q.log, gdE 2 e) ∧ q.C.past.length ≤ q.t) (fun q => ys.length - q.t)
    (fun q => [(0, SA aa ys.length ac), (3, PA x), (4, PA a), (5, PA b), (6, IA q.t)])
    (fun q => [(0, frm F), (1, frm O), (2, frm (busH ⟨[a, b], c, [], false, q.log⟩ x)), (3, frm (memsH [a, b] (q.log.foldl rp M00))), (4, frm (celH q.C c))]) 5 ⟨0, [], cel0⟩ ⟨Nat.zero_le _, Nat.le_refl _, fun e he => (by cases he), Nat.le_refl _⟩
    (Fit.of [0, 1, 4, 5, 6] rfl rfl rfl rfl ⟨rfl, rfl, rfl, rfl, rfl, trivial⟩ ⟨rfl, rfl, rfl, rfl, rfl, trivial⟩) (fun q hq => ?_)
  obtain ⟨t, log, C⟩ := q
  obtain ⟨ht, hlt, hgd, hpt⟩ := hq
  dsimp only at ht hlt hgd hpt
  have hlen : ∀ M ∈ log.foldl rp M00, M.log.length ≤ 1000000 := fun M hM => by
    have := rps_log log M00 0 M00_log M hM
    omega
  have hl2 : (log.foldl rp M00).length = 2 := rps_len _ _
  refine on ?_
  refine ev_lt trivial (fun h4 => ?_) (fun h4 => ?_)
  · have h4' : t < ys.length := by dsimp only at h4; omega
    obtain ⟨ad, rfl⟩ := haa (by omega)
    have hyo := hys ys[t] (List.getElem_mem h4')
    refine on ?_
    refine ev_ldN tbl_ok ⟨trivial, by dsimp only; omega, h4⟩ 1 rfl rfl rfl (ys[t]).av (us := (ys[t]).enc) ?_ (Ac.enc_len hyo) (fun h hh => ?_) trivial ?_
    · simp only [AV.ev, Ac.evc hyo, Option.map_some]
    · dsimp only
      rw [show ((t : Int)).toNat = t from Int.toNat_natCast t]
      exact rd_at (hA h hh) rfl _ fun j u hj => encA_get hys h4' hj
    generalize hyg : ys[t] = y at hyo
    have hq0 : ∀ s ∈ (Bs.mk [a, b] c [] false log).steps, s.at_ ≠ nowB ⟨[a, b], c, [], false, log⟩ := fun s hs => by cases hs
    have hc := c29 ⟨[a, b], c, [], false, log⟩ x (log.foldl rp M00) C (fun s hs => by cases hs) hlen (by dsimp only; omega) y hyo (by omega)
    obtain ⟨es, hB, hM, he1, hge, hC'⟩ := ov_rp (Ms := log.foldl rp M00) C y hq0 rfl
    rw [hB, hM, ← List.foldl_append] at hc
    refine on ?_
    refine call_ab trivial hc [2, 3, 4] rfl rfl rfl rfl rfl ⟨rfl, rfl, rfl, trivial⟩ (fun _ => rfl) (fun _ => rfl) (fun _ => trivial) (fun _ => ?_)
    refine on ?_
    refine ev_lend ⟨trivial, by unfold InR; dsimp only; omega⟩ ⟨t + 1, log ++ es, (ov ⟨[a, b], c, [], false, log⟩ (log.foldl rp M00) C y).C⟩ ⟨h4', by simp; omega, fun e he => ?_, by dsimp only; omega⟩ (by dsimp only; omega) (Fit.of [0, 1, 2, 3, 4] rfl rfl rfl rfl ⟨rfl, rfl, rfl, rfl, rfl, trivial⟩ ⟨rfl, rfl, rfl, rfl, rfl, trivial⟩)
    rcases List.mem_append.1 he with he | he
    · exact hgd e he
    · have := hge e he
      rwa [hl2] at this
  · refine newE trivial ?_
    refine newE trivial ?_
    refine on ?_
    refine call_ab trivial two [5, 6] rfl rfl rfl rfl rfl ⟨rfl, rfl, trivial⟩ (fun _ => rfl) (fun _ => rfl) (fun _ => trivial) (fun x2 => ?_)
    obtain ⟨x2, a1, b1, c1⟩ := x2
    refine pureF 2 rfl rfl (q := ∀ e ∈ log, e.ok) (fun h hh => by obtain ⟨_, ok, _⟩ := hh; exact ok.2.2.2.2) fun hlok => ?_
    refine on ?_
    refine call_ab trivial (c30 ⟨[a, b], c, [], false, log⟩ x (by dsimp only; omega)) [2] rfl rfl rfl rfl rfl ⟨rfl, trivial⟩ (fun _ => rfl) (fun _ => rfl) (fun _ => trivial) (fun z => ?_)
    obtain ⟨la, lc⟩ := z
    refine on ?_
    refine loop_in trivial ?_
    dsimp only
    refine own_named (sz := 1) 10 10 rfl rfl (vs := [a1, b1].map ptrV) rfl rfl rfl (Nat.le_refl _) (by decide) (fun _ => trivial) (fun g1 => ?_)
    refine pureF 11 rfl rfl (q := 0 < log.length → ∃ ad, la = some ad) (fun h hh hn => ownH_some hh hn) fun hla => ?_
    refine on ?_
    refine ev_loop trivial (ι := Nat) (fun q => q ≤ log.length) (fun q => log.length - q)
      (fun q => [(4, PA a), (5, PA b), (8, PA a1), (9, PA b1), (10, SA (some ⟨g1, 0, none⟩) 2 2), (11, SA la log.length lc), (12, IA q)])
      (fun q => [(0, frm F), (1, frm O), (2, frm (memsH [a, b] (log.foldl rp M00))), (3, frm (memsH [a1, b1] ((log.take q).foldl rp M00))), (4, frm (ownH 42 1 (some ⟨g1, 0, none⟩) 2 2 ([a1, b1].map ptrV))), (5, frm (ownH 64 68 la log.length lc (encE log)))]) 6 0 (Nat.zero_le _)
      (Fit.of [0, 1, 3, 8, 10, 11] rfl rfl rfl rfl ⟨rfl, rfl, rfl, rfl, rfl, rfl, rfl, trivial⟩ ⟨rfl, rfl, rfl, rfl, rfl, rfl, trivial⟩) (fun q hq => ?_)
    have hlen2 : ∀ M ∈ (log.take q).foldl rp M00, M.log.length ≤ 1000000 := fun M hM => by
      have := rps_log (log.take q) M00 0 M00_log M hM
      have h3 : (log.take q).length ≤ log.length := by simp; omega
      omega
    have hl3 : ((log.take q).foldl rp M00).length = 2 := rps_len _ _
    refine on ?_
    refine ev_lt trivial (fun h5 => ?_) (fun h5 => ?_)
    · have hq' : q < log.length := by omega
      obtain ⟨ad, rfl⟩ := hla (by omega)
      have heo := hlok log[q] (List.getElem_mem hq')
      have heg := hgd log[q] (List.getElem_mem hq')
      obtain ⟨g67, g0, g1', g2, g3⟩ := Ent.get log[q] heo
      have rd : ∀ h, ownH 64 68 (some ad) log.length lc (encE log) h → ∀ (j : Nat) (u : Value), (log[q]).enc[j]? = some u → h.cell ((ad.add ((q : Int).toNat * 68)).add j) = some u := fun h hh j u hj => by
        rw [show (q : Int).toNat = q from Int.toNat_natCast q, add_add]
        exact rdA_at (ownH_rd hh) (encE_get hlok hq' hj)
      have hnx : (log.take (q + 1)).foldl rp M00 = rp ((log.take q).foldl rp M00) log[q] := by
        rw [List.take_add_one, List.getElem?_eq_getElem hq', List.foldl_append]; rfl
      generalize hMq : (log.take q).foldl rp M00 = Mq at hnx hlen2 hl3
      generalize hye : log[q] = e at *
      refine on ?_
      refine ev_ld1 tbl_ok ⟨trivial, by omega, h5⟩ 5 rfl rfl rfl (IA e.err) rfl (fun h hh => rd h hh 67 _ g67) trivial ?_
      refine on ?_
      refine ev_ne trivial (fun h6 => ?_) (fun h6 => ?_)
      · refine on ?_
        refine ev_lend ⟨trivial, by unfold InR; omega⟩ (q + 1) hq' (by omega) (Fit.of [0, 1, 2, 3, 4, 5] rfl rfl rfl rfl ⟨rfl, rfl, rfl, rfl, rfl, rfl, rfl, trivial⟩ ⟨rfl, rfl, rfl, ?_, rfl, rfl, trivial⟩)
        rw [hnx, rp, if_neg h6]; rfl
      refine on ?_
      refine ev_ld1 tbl_ok ⟨trivial, by omega, h5⟩ 5 rfl rfl rfl (IA e.do_) rfl (fun h hh => rd h hh 0 _ g0) trivial ?_
      refine on ?_
      refine ev_lt trivial (fun h7 => ?_) (fun h7 => ?_)
      · obtain ⟨hm0, hm2⟩ := heg h6 (.inl h7)
        have hi : e.mem.toNat < Mq.length := by omega
        have hbt : [a1, b1][e.mem.toNat]? = some ([a1, b1][e.mem.toNat]'(by simpa using hm2)) := List.getElem?_eq_getElem _
        have hMt : Mq[e.mem.toNat]? = some Mq[e.mem.toNat] := List.getElem?_eq_getElem hi
        have hsel : selM Mq e.mem = some Mq[e.mem.toNat] := by rw [selM, if_pos hm0, hMt]
        have hrp : rp Mq e = Mq.set e.mem.toNat (wrM Mq[e.mem.toNat] e.idx e.data) := by rw [rp, if_pos h6, hsel]; simp only [h7, if_true]
        generalize hmg : [a1, b1][e.mem.toNat]'(by simpa using hm2) = mb at hbt
        refine splitF 3 (B := memH Mq[e.mem.toNat] mb) (C := memsX [a1, b1] Mq e.mem.toNat) rfl rfl trivial (fun h hh => mems_out hbt hMt hh) ?_
        refine on ?_
        refine draw_ok mixed trivial O5_19_ok [(4, _), (5, _)] Q5_19_ok ⟨rfl, rfl, trivial⟩ rfl (fun ρ0 => ?_)
        refine on ?_
        refine ev_more ⟨trivial, by omega, h5⟩ ?_
        refine dq_ld1 tbl_ok rfl 5 rfl rfl rfl (IA e.mem) rfl (fun h hh => rd h hh 1 _ g1') ?_
        refine on ?_
        refine ev_more ⟨trivial, by omega, by omega⟩ ?_
        refine dq_ld1 tbl_ok rfl 4 rfl rfl rfl (PA mb) rfl (fun h hh => ?_) ?_
        · rw [show e.mem.toNat * 1 = e.mem.toNat by omega]
          exact rdA_at (ownH_rd hh) (ptr_get hbt)
        refine on ?_
        refine ev_more ⟨trivial, by omega, h5⟩ ?_
        refine dq_ld1 tbl_ok rfl 5 rfl rfl rfl (IA e.idx) rfl (fun h hh => rd h hh 2 _ g2) ?_
        refine on ?_
        refine ev_more ⟨trivial, by omega, h5⟩ ?_
        refine dq_ldN tbl_ok rfl 5 rfl rfl rfl (.run .u8 64 e.data) (us := e.data.map (Value.int .u8)) (by simp [AV.ev, show e.data.length = 64 from heo]) (by simp [show e.data.length = 64 from heo]) (fun h hh j u hj => ?_) ?_
        · rw [add_add]
          have := rd h hh (3 + j) _ (g3 j u hj)
          rwa [add_add] at this ⊢
        refine on ?_
        refine call_ab trivial (c21 Mq[e.mem.toNat] mb e.idx e.data heo (hlen2 _ (List.getElem_mem hi))) [6] rfl rfl rfl rfl rfl ⟨rfl, trivial⟩ (fun _ => rfl) (fun _ => rfl) (fun _ => ⟨rfl, rfl, trivial⟩) (fun _ => ?_)
        refine joinF 3 6 (A := memsH [a1, b1] (Mq.set e.mem.toNat (wrM Mq[e.mem.toNat] e.idx e.data))) rfl rfl rfl rfl rfl ⟨rfl, rfl, trivial⟩ (fun h hh => mems_in hbt hh) ?_
        refine on ?_
        refine ev_lend ⟨trivial, by unfold InR; omega⟩ (q + 1) hq' (by omega) (Fit.of [0, 1, 2, 3, 4, 5] rfl rfl rfl rfl ⟨rfl, rfl, rfl, rfl, rfl, rfl, rfl, trivial⟩ ⟨rfl, rfl, rfl, ?_, rfl, rfl, trivial⟩)
        rw [hnx, hrp]; rfl
      refine on ?_
      refine ev_lt trivial (fun h8 => ?_) (fun h8 => ?_)
      · obtain ⟨hm0, hm2⟩ := heg h6 (.inr h8)
        have hi : e.mem.toNat < Mq.length := by omega
        have hbt : [a1, b1][e.mem.toNat]? = some ([a1, b1][e.mem.toNat]'(by simpa using hm2)) := List.getElem?_eq_getElem _
        have hMt : Mq[e.mem.toNat]? = some Mq[e.mem.toNat] := List.getElem?_eq_getElem hi
        have hsel : selM Mq e.mem = some Mq[e.mem.toNat] := by rw [selM, if_pos hm0, hMt]
        have hrp : rp Mq e = Mq.set e.mem.toNat (flM Mq[e.mem.toNat]) := by rw [rp, if_pos h6, hsel]; simp only [if_neg h7, if_pos h8]
        generalize hmg : [a1, b1][e.mem.toNat]'(by simpa using hm2) = mb at hbt
        refine splitF 3 (B := memH Mq[e.mem.toNat] mb) (C := memsX [a1, b1] Mq e.mem.toNat) rfl rfl trivial (fun h hh => mems_out hbt hMt hh) ?_
        refine on ?_
        refine ev_ld1 tbl_ok ⟨trivial, by omega, h5⟩ 5 rfl rfl rfl (IA e.mem) rfl (fun h hh => rd h hh 1 _ g1') trivial ?_
        refine on ?_
        refine ev_ld1 tbl_ok ⟨trivial, by omega, by omega⟩ 4 rfl rfl rfl (PA mb) rfl (fun h hh => ?_) trivial ?_
        · rw [show e.mem.toNat * 1 = e.mem.toNat by omega]
          exact rdA_at (ownH_rd hh) (ptr_get hbt)
        refine on ?_
        refine call_ab trivial (c23 Mq[e.mem.toNat] mb (hlen2 _ (List.getElem_mem hi))) [6] rfl rfl rfl rfl rfl ⟨rfl, trivial⟩ (fun _ => rfl) (fun _ => rfl) (fun _ => trivial) (fun _ => ?_)
        refine joinF 3 6 (A := memsH [a1, b1] (Mq.set e.mem.toNat (flM Mq[e.mem.toNat]))) rfl rfl rfl rfl rfl trivial (fun h hh => mems_in hbt hh) ?_
        refine on ?_
        refine ev_lend ⟨trivial, by unfold InR; omega⟩ (q + 1) hq' (by omega) (Fit.of [0, 1, 2, 3, 4, 5] rfl rfl rfl rfl ⟨rfl, rfl, rfl, rfl, rfl, rfl, rfl, trivial⟩ ⟨rfl, rfl, rfl, ?_, rfl, rfl, trivial⟩)
        rw [hnx, hrp]; rfl
      · refine on ?_
        refine ev_lend ⟨trivial, by unfold InR; omega⟩ (q + 1) hq' (by omega) (Fit.of [0, 1, 2, 3, 4, 5] rfl rfl rfl rfl ⟨rfl, rfl, rfl, rfl, rfl, rfl, rfl, trivial⟩ ⟨rfl, rfl, rfl, ?_, rfl, rfl, trivial⟩)
        have hrp : rp Mq e = Mq := by
          rw [rp, if_pos h6]
          split
          · rw [if_neg h7, if_neg h8]
          · rfl
        rw [hnx, hrp]; rfl
    · have hql : q = log.length := by omega
      subst hql
      rw [List.take_length]
      obtain ⟨M, N, hMN⟩ : ∃ M N, log.foldl rp M00 = [M, N] := by
        match log.foldl rp M00, hl2 with
        | [M, N], _ => exact ⟨M, N, rfl⟩
      refine splitF 2 (B := memH M a) (C := memsH [b] [N]) rfl rfl trivial (fun h hh => by rw [hMN] at hh; exact hh) ?_
      refine splitF 2 (B := memH N b) (C := emp) rfl rfl trivial (fun h hh => hh) ?_
      refine splitF 3 (B := memH M a1) (C := memsH [b1] [N]) rfl rfl trivial (fun h hh => by rw [hMN] at hh; exact hh) ?_
      refine splitF 3 (B := memH N b1) (C := emp) rfl rfl trivial (fun h hh => hh) ?_
      refine on ?_
      refine ev_loop trivial (ι := Nat) (fun i => i ≤ 4) (fun i => 4 - i)
        (fun i => [(4, PA a), (5, PA b), (8, PA a1), (9, PA b1), (13, IA i)])
        (fun i => [(0, frm F), (1, frm O), (2, frm (memH M a)), (3, frm (memH N b)), (4, frm (memH M a1)), (5, frm (memH N b1))]) 6 0 (Nat.zero_le _)
        (Fit.of [0, 1, 6, 7, 8, 9] rfl rfl rfl rfl ⟨rfl, rfl, rfl, rfl, rfl, trivial⟩ ⟨rfl, rfl, rfl, rfl, rfl, rfl, trivial⟩) (fun i hi => ?_)
      refine on ?_
      refine ev_lt trivial (fun h6 => ?_) (fun h6 => ?_)
      · refine on ?_
        refine call_ab trivial (c26 M a i) [2] rfl rfl rfl rfl rfl ⟨rfl, trivial⟩ (fun _ => rfl) (fun _ => rfl) (fun _ => trivial) (fun _ => ?_)
        refine on ?_
        refine call_ab trivial (c26 M a1 i) [4] rfl rfl rfl rfl rfl ⟨rfl, trivial⟩ (fun _ => rfl) (fun _ => rfl) (fun _ => trivial) (fun _ => ?_)
        refine on ?_
        refine call_ab trivial (c25 N b i) [3] rfl rfl rfl rfl rfl ⟨rfl, trivial⟩ (fun _ => rfl) (fun _ => rfl) (fun _ => trivial) (fun _ => ?_)
        refine on ?_
        refine call_ab trivial (c25 N b1 i) [5] rfl rfl rfl rfl rfl ⟨rfl, trivial⟩ (fun _ => rfl) (fun _ => rfl) (fun _ => trivial) (fun _ => ?_)
        refine on ?_
        refine ev_br trivial (fun h => absurd rfl (xt h)) (fun _ => ?_)
        refine on ?_
        refine ev_br trivial (fun h => absurd rfl (xt h)) (fun _ => ?_)
        refine on ?_
        exact ev_lend ⟨trivial, by unfold InR; omega⟩ (i + 1) (by omega) (by omega) (Fit.of [0, 1, 2, 3, 4, 5] rfl rfl rfl rfl ⟨rfl, rfl, rfl, rfl, rfl, trivial⟩ ⟨rfl, rfl, rfl, rfl, rfl, rfl, trivial⟩)
      · refine on ?_
        refine call_ab trivial (c31 M a) [2] rfl rfl rfl rfl rfl ⟨rfl, trivial⟩ (fun _ => rfl) (fun _ => rfl) (fun _ => trivial) (fun _ => ?_)
        refine on ?_
        refine call_ab trivial (c31 M a1) [4] rfl rfl rfl rfl rfl ⟨rfl, trivial⟩ (fun _ => rfl) (fun _ => rfl) (fun _ => trivial) (fun _ => ?_)
        refine on ?_
        refine ev_lt trivial (fun _ => ?_) (fun h => absurd rfl h)
        refine on ?_
        refine call_ab trivial (c31 N b) [3] rfl rfl rfl rfl rfl ⟨rfl, trivial⟩ (fun _ => rfl) (fun _ => rfl) (fun _ => trivial) (fun _ => ?_)
        refine on ?_
        refine call_ab trivial (c31 N b1) [5] rfl rfl rfl rfl rfl ⟨rfl, trivial⟩ (fun _ => rfl) (fun _ => rfl) (fun _ => trivial) (fun _ => ?_)
        refine on ?_
        refine ev_lt trivial (fun _ => ?_) (fun h => absurd rfl h)
        refine on ?_
        refine call_ab trivial c17 [] rfl rfl rfl rfl rfl trivial (fun _ => rfl) (fun _ => rfl) (fun _ => trivial) (fun _ => ?_)
        refine on ?_
        exact retE trivial rfl () [0, 1] rfl rfl rfl rfl ⟨_, rfl, fun ρ => rfl⟩ ⟨rfl, rfl, trivial⟩
end Go.Proofs.Ytolcobhaghdfcaa
